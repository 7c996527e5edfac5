/- Walks: ComposeForms. -/
import Derived.Test.YtohgjihccjnheabD13
set_option linter.unusedVariables false
set_option linter.unusedSimpArgs false
namespace Go.Proofs.Ytohgjihccjnheab
open Go.RowKit

def cmpF (b : Bool) (RA RB : List Int) : Nat → Int := if b then fmF (cf RA) (cf RB) else fun _ => 0
theorem pair_of (x : List Int × List Int) : ∃ a b, x = (a, b) := ⟨x.1, x.2, rfl⟩
theorem Rdd.of {p : Int} {ds xs ys : List Int} (h : Rd p ds xs ys) (hr : (xs.length : Int) - 1 ≤ gns ds) : Rdd p ds (xs, ys) := ⟨h, hr⟩
theorem FormOk.rdd {p : Int} {d f g : Nat → Int} (hD : Disc p d) (hd : By d) (h : FormOk p (mkp 64 d) f g) (hf : By f) (hg : By g) (hr : ((mkp 64 f).length : Int) - 1 ≤ gns (mkp 64 d)) : Rdd p (mkp 64 d) (mkp 64 f, mkp 64 g) := Rdd.of (h.rd hD hd hf hg) hr

end Go.Proofs.Ytohgjihccjnheab

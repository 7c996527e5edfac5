/- Walks: ReduceForm. -/
import Derived.Test.YtohgjihccjnheabD10
set_option linter.unusedVariables false
set_option linter.unusedSimpArgs false
namespace Go.Proofs.Ytohgjihccjnheab
open Go.RowKit

theorem Disc.d64 {p : Int} {d : Nat → Int} (h : Disc p d) (hd : By d) : P64 p (mkp 64 d) := OkP.p64 h.1.1 hd
theorem FormOk.rd {p : Int} {d f g : Nat → Int} (hD : Disc p d) (hd : By d) (h : FormOk p (mkp 64 d) f g) (hf : By f) (hg : By g) : Rd p (mkp 64 d) (mkp 64 f) (mkp 64 g) :=
  ⟨h.1.2, (hD.d64 hd).po, hD.2.1, (h.1.p64 hf).po, (h.2.1.p64 hg).po, h.2.2⟩
theorem fm_mkp2 (f g : Nat → Int) : u8s 128 (fmF (cf (mkp 64 f)) (cf (mkp 64 g))) = u8s 128 (fmF f g) := u8s_ext fun j hj => by
  unfold fmF
  by_cases e : j < 64
  · rw [if_pos e, if_pos e, mkp_cf, if_pos e]
  · rw [if_neg e, if_neg e, mkp_cf, if_pos (by omega)]
def redF (b1 bf : Bool) (RA RB : List Int) : Nat → Int := if b1 && bf then fmF (cf RA) (cf RB) else fun _ => 0

end Go.Proofs.Ytohgjihccjnheab

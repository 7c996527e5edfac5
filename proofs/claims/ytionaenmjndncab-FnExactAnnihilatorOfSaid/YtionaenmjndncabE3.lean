/- Walks: units and inverses modulo a modulus. -/
import Derived.Test.YtionaenmjndncabE2
set_option linter.unusedVariables false
set_option linter.unusedSimpArgs false
namespace Go.Proofs.Ytionaenmjndncab
open Go.RowKit

theorem eq_one_dec {p : Int} {D : List Int} (hD : P64 p D) {b : Bool} (h : decide (D = [1]) = b) {inst : Decidable (∀ i, i < 64 → cf D i = cf [1] i)} : @decide (∀ i, i < 64 → cf D i = cf [1] i) inst = b := by
  rw [← h]; refine decide_eq_decide.2 ⟨fun h => ?_, fun h i _ => by rw [h]⟩
  have := hD.pr.pos
  refine hD.po.ext (one_Po (by omega)) fun i => ?_
  by_cases hi : i < 64
  · exact h i hi
  · rw [cf_ge D i (by have := hD.le; omega), cf_ge [1] i (by simp; omega)]

end Go.Proofs.Ytionaenmjndncab

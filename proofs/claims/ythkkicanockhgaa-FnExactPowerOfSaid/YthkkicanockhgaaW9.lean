/- Walks: ValueAt and DerivativeOf on both sides. -/
import Derived.Test.YthkkicanockhgaaW8
import Derived.StillTailTactics
namespace Go.Proofs.Ythkkicanockhgaa
open Go.RowKit

theorem good_pr {p : Int} {fs : List (Nat → Int)} (h : Good p fs) : Pr p := h.1
theorem dec_true (P : Prop) : ∃ b : Bool, P ↔ b = true := by
  by_cases h : P
  · exact ⟨true, by simp [h]⟩
  · exact ⟨false, by simp [h]⟩
theorem mkp_By {f : Nat → Int} (hf : By f) (n : Nat) : ∀ i, 0 ≤ cf (mkp n f) i ∧ cf (mkp n f) i ≤ 255 := fun i => by
  rw [mkp_cf]; split
  · exact hf i
  · omega


end Go.Proofs.Ythkkicanockhgaa

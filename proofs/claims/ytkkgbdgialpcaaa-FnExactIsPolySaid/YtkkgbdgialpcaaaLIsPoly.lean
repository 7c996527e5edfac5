/- The law FnExactIsPoly, walked. -/
import Derived.Test.YtkkgbdgialpcaaaW3
namespace Go.Proofs.Ytkkgbdgialpcaaa
open Go.RowKit
set_option maxHeartbeats 400000 in
theorem lawIsPoly_any (f : Nat → Int) (p : Int) (w : World) (hf : ∀ i, 0 ≤ f i ∧ f i ≤ 255) :
    Calls Try.prog 4 #[.int .i64 p, .agg (u8s 64 f)] w fun e w' => e = .returned (.bool true) ∧ Below w.heap.size w w' := by
  obtain ⟨b, hb⟩ : ∃ b, decide ((∀ i : Nat, i < 64 → f i < p) ∧ Pr p) = b := ⟨_, rfl⟩
  have hfH : Hid (∀ i, i < 64 → 0 ≤ f i ∧ f i ≤ 255) := fun i _ => hf i
  clear hf
  have hbH := Lib.hid hb; clear hb
  have hB := Blk.new w (u8s 64 f) 23
  have hb0 : Below w.heap.size w (w.alloc (.cells (u8s 64 f) 23)) := (Below.refl _ _).alloc (Nat.le_refl _) _
  go_enter Try.func4, Try.ntmps4
  go_wp2_with (refine wpl_load_arr rfl _ _ rfl _ rfl _ _ hB _ _ uArr64 sArr64 ?_)
  refine (toPoly_any f _).mono ?_
  rintro e w1 ⟨rfl, hb1⟩
  have hB1 := hB.below hb1 hB.lt
  have hb1' := hb0.trans (hb1.mono (by simp))
  clear hB hb1 hb0
  go_wp2_with fail
  refine (specIsPoly_any f p _ hfH.out b hbH.out).mono ?_
  rintro e w2 ⟨rfl, hb2⟩
  have hB2 := hB1.below hb2 hB1.lt
  have hb2' := hb1'.trans (hb2.mono hb1'.size)
  clear hB1 hb2 hb1'
  go_wp2_with (refine wpl_load_arr rfl _ _ rfl _ rfl _ _ hB2 _ _ uArr64 sArr64 ?_)
  refine (toPoly_any f _).mono ?_
  rintro e w3 ⟨rfl, hb3⟩
  have hb3' := hb2'.trans (hb3.mono hb2'.size)
  clear hB2 hb3 hb2'
  go_wp2_with fail
  refine (implIsPoly_any f p _ hfH.out b hbH.out).mono ?_
  rintro e w4 ⟨rfl, hb4⟩
  have hb4' := hb3'.trans (hb4.mono hb3'.size)
  clear hb4 hb3'
  go_wp2_with fail
  go_ret
  exact ⟨rfl, hb4'⟩
end Go.Proofs.Ytkkgbdgialpcaaa

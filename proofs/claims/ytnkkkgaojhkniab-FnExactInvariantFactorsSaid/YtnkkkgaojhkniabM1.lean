/- Walks: laws.toRow, laws.toSquare. -/
import Derived.Test.YtnkkkgaojhkniabFacts2
import Derived.Test.YtnkkkgaojhkniabCode
set_option linter.unusedVariables false
set_option linter.unusedSimpArgs false
namespace Go.Proofs.Ytnkkkgaojhkniab
open Go.RowKit
set_option maxHeartbeats 400000 in
theorem toRow_any (f : Nat → Int) (w : World) : Calls Try.prog 29 #[.agg (u8s 6 f)] w fun e w' => e = .returned (.agg (u8s 6 f)) ∧ Below w.heap.size w w' := by
  go_enter Try.func29, Try.ntmps29
  go_wp2_with (refine wpl_alloc_arr rfl 28 rfl _ zRow ?_)
  go_loopw [4] (fun i wr => ∃ k : Nat, k ≤ 6 ∧ i = .int .i64 k ∧ Blk wr w.heap.size (u8s 6 f) 22 ∧ Blk wr (w.heap.size + 1) (u8s 6 fun _ => 0) 28 ∧
    Blk wr (w.heap.size + 1 + 1) (u8s 6 fun j => if j < k then f j else 0) 28 ∧ Below w.heap.size w wr) (fun i _ => 6 - (intOf i).toNat)
  case atStart =>
    obtain ⟨hb, h0, h1, h2⟩ := boxes3 w (u8s 6 f) (u8s 6 fun _ => 0) (u8s 6 fun _ => 0) 22 28 28
    exact ⟨0, by omega, rfl, h0, h1, h2.cast (u8s_ext fun j _ => by simp), hb⟩
  case round =>
    obtain ⟨k, hk, rfl, b0, b1, b2, hb⟩ := hrel
    by_cases hlt : k < 6
    · have c0 : wr.cell? ⟨w.heap.size, k, none⟩ = some (.int .u8 (f k)) := by rw [b0.cell, u8s_get _ hlt]
      have c1 : wr.cell? ⟨w.heap.size + 1 + 1, k, none⟩ = some (.int .u8 0) := by rw [b2.cell, u8s_get _ hlt]; simp
      have c2 := b2.free k
      go_wp2_with (fail)
      go_roundw
      case rel =>
        refine ⟨k + 1, by omega, by go_num, b0.set_other _ _ (by simp; omega), b1.set_other _ _ (by simp), ?_, hb.setCell (by simp; omega) _⟩
        refine (b2.set k _).cast ?_
        rw [u8s_set]; apply u8s_ext; intro j _
        by_cases e1 : j = k
        · subst e1; simp
        · by_cases e2 : j < k
          · simp [e1, e2, show j < k + 1 by omega]
          · simp [e1, e2, show ¬ j < k + 1 by omega]
      case measure => simp [intOf] <;> omega
    · obtain rfl : k = 6 := by omega
      go_wp2_with (first | (refine wpl_load_arr rfl 28 _ rfl _ rfl _ _ b2 _ _ uRow sRow ?_) | (refine wpl_store_arr rfl 28 _ _ rfl _ rfl _ rfl _ _ b1 sRow rfl (u8s_oneCell _ _) ?_))
      refine bodyPost_ret (results_cell_row rfl _ _ _ _ _ _ _ rfl (b1.setRow_same) uRow rfl sRow) rfl ⟨?_, below_setRow hb (by omega) _⟩
      rw [u8s_ext (fun j hj => if_pos hj)]

set_option maxHeartbeats 400000 in
theorem toSquare_any (F : Nat → Int) (w : World) : Calls Try.prog 10 #[.agg (u8s 36 F)] w fun e w' => e = .returned (.agg (u8s 36 F)) ∧ Below w.heap.size w w' := by
  go_enter Try.func10, Try.ntmps10
  go_wp2_with (refine wpl_alloc_arr rfl 30 rfl _ zSquare ?_)
  go_loopw [4] (fun i wr => ∃ k : Nat, k ≤ 6 ∧ i = .int .i64 k ∧ Blk wr w.heap.size (u8s 36 F) 23 ∧ Blk wr (w.heap.size + 1) (u8s 36 fun _ => 0) 30 ∧
    Blk wr (w.heap.size + 1 + 1) (u8s 36 fun j => if j < k * 6 then F j else 0) 30 ∧ Below w.heap.size w wr) (fun i _ => 6 - (intOf i).toNat)
  case atStart =>
    obtain ⟨hb, h0, h1, h2⟩ := boxes3 w (u8s 36 F) (u8s 36 fun _ => 0) (u8s 36 fun _ => 0) 23 30 30
    exact ⟨0, by omega, rfl, h0, h1, h2.cast (u8s_ext fun j _ => by simp), hb⟩
  case round =>
    obtain ⟨k, hk, rfl, b0, b1, b2, hb⟩ := hrel
    by_cases hlt : k < 6
    · have hc : ∀ j, j < 6 → wr.cell? ⟨w.heap.size, k * 6 + j, none⟩ = some (.int .u8 (F (k * 6 + j))) := fun j hj => by rw [b0.cell, u8s_get _ (by omega)]
      have hcH := Lib.hid hc
      clear hc
      go_wp2_with (refine wpl_load_mid rfl 22 _ rfl _ (k * 6) rfl 6 _ _ hcH.out uArr6 sArr6 ?_)
      refine (toRow_any (fun j => F (k * 6 + j)) _).mono ?_
      rintro e w1 ⟨rfl, hb1⟩
      have b0' := b0.keep hb1
      have b1' := b1.keep hb1
      have b2' := b2.keep hb1
      have hb' := below_step hb hb1
      clear b0 b1 b2 hb hb1
      go_wp2_with (refine wpl_store_part rfl 28 _ _ rfl _ (k * 6) rfl 6 36 _ _ rfl _ b2' sRow (by omega) ?_)
      go_roundw
      case rel =>
        refine ⟨k + 1, by omega, by go_num, b0'.setRow_other (by omega), b1'.setRow_other (by omega), ?_, below_setRow hb' (by omega) _⟩
        refine (b2'.setRow_same).cast ?_
        apply u8s_ext; intro j _
        by_cases e1 : k * 6 ≤ j ∧ j < k * 6 + 6
        · rw [if_pos e1, if_pos (by omega), show k * 6 + (j - k * 6) = j by omega]
        · rw [if_neg e1]
          by_cases e2 : j < k * 6
          · rw [if_pos e2, if_pos (by omega)]
          · rw [if_neg e2, if_neg (by omega)]
      case measure => simp [intOf] <;> omega
    · obtain rfl : k = 6 := by omega
      go_wp2_with (first | (refine wpl_load_arr rfl 30 _ rfl _ rfl _ _ b2 _ _ uSquare sSquare ?_) | (refine wpl_store_arr rfl 30 _ _ rfl _ rfl _ rfl _ _ b1 sSquare rfl (u8s_oneCell _ _) ?_))
      refine bodyPost_ret (results_cell_row rfl _ _ _ _ _ _ _ rfl (b1.setRow_same) uSquare rfl sSquare) rfl ⟨?_, below_setRow hb (by omega) _⟩
      rw [u8s_ext (fun j hj => if_pos (show j < 6 * 6 by omega))]
end Go.Proofs.Ytnkkkgaojhkniab

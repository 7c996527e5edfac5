/- Walks: laws.toPoly. -/
import Derived.Test.YthkkicanockhgaaFacts
namespace Go.Proofs.Ythkkicanockhgaa
open Go.RowKit
set_option maxHeartbeats 400000 in
theorem toPoly_any (f : Nat → Int) (w : World) : Calls Try.prog 16 #[.agg (u8s 64 f)] w fun e w' => e = .returned (.agg (u8s 64 f)) ∧ Below w.heap.size w w' := by
  go_enter Try.func16, Try.ntmps16
  go_wp2_with (refine wpl_alloc_arr rfl _ rfl _ zPoly ?_)
  go_loopw [4] (fun i wr => ∃ k : Nat, k ≤ 64 ∧ i = .int .i64 k ∧ Blk wr w.heap.size (u8s 64 f) 22 ∧ Blk wr (w.heap.size + 1) (u8s 64 fun _ => 0) 23 ∧
    Blk wr (w.heap.size + 1 + 1) (u8s 64 fun j => if j < k then f j else 0) 23 ∧ Below w.heap.size w wr) (fun i _ => 64 - (intOf i).toNat)
  case atStart =>
    refine ⟨0, by omega, rfl, ?_, ?_, ?_, ?_⟩
    · exact ((Blk.new w _ _).alloc _).alloc _
    · have := (Blk.new (w.alloc (Obj.cells (u8s 64 f) 22)) (u8s 64 fun _ => 0) 23).alloc (Obj.cells (u8s 64 fun x => 0) 23)
      simpa using this
    · have := Blk.new ((w.alloc (Obj.cells (u8s 64 f) 22)).alloc (Obj.cells (u8s 64 fun x => 0) 23)) (u8s 64 fun _ => 0) 23
      simpa using this
    · exact (((Below.refl _ _).alloc (Nat.le_refl _) _).alloc (by simp) _).alloc (by simp; omega) _
  case round =>
    obtain ⟨k, hk, rfl, b0, b1, b2, hb⟩ := hrel
    by_cases hlt : k < 64
    · have c0 : wr.cell? ⟨w.heap.size, k, none⟩ = some (.int .u8 (f k)) := by rw [b0.cell, u8s_get _ hlt]
      have c1 : wr.cell? ⟨w.heap.size + 1 + 1, k, none⟩ = some (.int .u8 0) := by rw [b2.cell, u8s_get _ hlt]; simp
      have c2 := b2.free k
      go_wp2_with (fail)
      go_roundw
      case rel =>
        refine ⟨k + 1, by omega, by go_num, b0.set_other _ _ (by simp; omega), b1.set_other _ _ (by simp), ?_, hb.setCell (by simp; omega) _⟩
        refine (b2.set k _).cast ?_
        rw [u8s_set]; apply u8s_ext; intro j _
        by_cases e1 : j = k
        · subst e1; simp
        · by_cases e2 : j < k
          · simp [e1, e2, show j < k + 1 by omega]
          · simp [e1, e2, show ¬ j < k + 1 by omega]
      case measure => simp [intOf]; omega
    · obtain rfl : k = 64 := by omega
      go_wp2_with (first | (refine wpl_load_arr rfl _ _ rfl _ rfl _ _ b2 _ _ uPoly sPoly ?_) | (refine wpl_store_arr rfl _ _ _ rfl _ rfl _ rfl _ _ b1 sPoly rfl (u8s_oneCell _ _) ?_))
      refine bodyPost_ret (results_cell_row rfl _ _ _ _ _ _ _ rfl (b1.setRow_same) uPoly rfl sPoly) rfl ⟨?_, below_setRow hb (by omega) _⟩
      rw [u8s_ext (fun j hj => if_pos hj)]
end Go.Proofs.Ythkkicanockhgaa

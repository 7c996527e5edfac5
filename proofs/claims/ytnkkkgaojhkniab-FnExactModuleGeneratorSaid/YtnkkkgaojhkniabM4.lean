/- Walks: equality of vectors and matrices. -/
import Derived.Test.YtnkkkgaojhkniabMsA
import Derived.Test.YtnkkkgaojhkniabM3
set_option linter.unusedVariables false
set_option linter.unusedSimpArgs false
namespace Go.Proofs.Ytnkkkgaojhkniab
open Go.RowKit

set_option maxHeartbeats 400000 in
theorem eqRow_same (f : Nat → Int) (w : World) :
    Calls Try.prog 26 #[.agg (u8s 6 f), .agg (u8s 6 f)] w fun e w' => e = .returned (.bool true) ∧ Below w.heap.size w w' := by
  obtain ⟨hb0, hB1, hB2⟩ := boxes2 w (u8s 6 f) (u8s 6 f) 28 28
  go_enter Try.func26, Try.ntmps26
  go_wp2_with fail
  go_loopw [5] (fun i wr => ∃ k : Nat, k ≤ 6 ∧ i = .int .i64 k ∧ Blk wr w.heap.size (u8s 6 f) 28 ∧ Blk wr (w.heap.size + 1) (u8s 6 f) 28 ∧ Below w.heap.size w wr) (fun i _ => 6 - (intOf i).toNat)
  case atStart => exact ⟨0, by omega, rfl, hB1, hB2, hb0⟩
  case round =>
    obtain ⟨k, hk, rfl, b1, b2, hb⟩ := hrel
    by_cases hlt : k < 6
    · have c0 : wr.cell? ⟨w.heap.size, k, none⟩ = some (.int .u8 (f k)) := by rw [b1.cell, u8s_get _ hlt]
      have c1 : wr.cell? ⟨w.heap.size + 1, k, none⟩ = some (.int .u8 (f k)) := by rw [b2.cell, u8s_get _ hlt]
      have hi0 : (0 : Int) ≤ (k : Int) := by omega
      have hi1 : (k : Int) < 6 := by omega
      clear hB1 hB2 hb0
      go_wp2_with fail
      go_quiet (fail)
      go_wp2
      go_roundw
      case rel => exact ⟨k + 1, by omega, by go_num, b1, b2, ⟨hb.os, hb.tape, hb.output, hb.size, hb.block⟩⟩
      case measure => simp [intOf] <;> omega
    · obtain rfl : k = 6 := by omega
      go_wp2_with fail
      go_ret
      exact ⟨rfl, hb⟩

end Go.Proofs.Ytnkkkgaojhkniab

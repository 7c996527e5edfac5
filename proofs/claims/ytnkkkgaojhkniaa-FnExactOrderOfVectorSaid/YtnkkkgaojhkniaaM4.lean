/- Walks: equality of vectors and matrices. -/
import Derived.Test.YtnkkkgaojhkniaaM0
import Derived.Test.YtnkkkgaojhkniaaM3
set_option linter.unusedVariables false
set_option linter.unusedSimpArgs false
namespace Go.Proofs.Ytnkkkgaojhkniaa
open Go.RowKit

set_option maxHeartbeats 400000 in
theorem eqRow_same (f : Nat → Int) (w : World) :
    Calls Try.prog 22 #[.agg (u8s 6 f), .agg (u8s 6 f)] w fun e w' => e = .returned (.bool true) ∧ Below w.heap.size w w' := by
  obtain ⟨hb0, hB1, hB2⟩ := boxes2 w (u8s 6 f) (u8s 6 f) 25 25
  go_enter Try.func22, Try.ntmps22
  go_wp2_with fail
  go_loopw [5] (fun i wr => ∃ k : Nat, k ≤ 6 ∧ i = .int .i64 k ∧ Blk wr w.heap.size (u8s 6 f) 25 ∧ Blk wr (w.heap.size + 1) (u8s 6 f) 25 ∧ Below w.heap.size w wr) (fun i _ => 6 - (intOf i).toNat)
  case atStart => exact ⟨0, by omega, rfl, hB1, hB2, hb0⟩
  case round =>
    obtain ⟨k, hk, rfl, b1, b2, hb⟩ := hrel
    by_cases hlt : k < 6
    · have c0 : wr.cell? ⟨w.heap.size, k, none⟩ = some (.int .u8 (f k)) := by rw [b1.cell, u8s_get _ hlt]
      have c1 : wr.cell? ⟨w.heap.size + 1, k, none⟩ = some (.int .u8 (f k)) := by rw [b2.cell, u8s_get _ hlt]
      have hi0 : (0 : Int) ≤ (k : Int) := by omega
      have hi1 : (k : Int) < 6 := by omega
      clear hB1 hB2 hb0
      go_wp2_with fail
      go_quiet (fail)
      go_wp2
      go_roundw
      case rel => exact ⟨k + 1, by omega, by go_num, b1, b2, ⟨hb.os, hb.tape, hb.output, hb.size, hb.block⟩⟩
      case measure => simp [intOf] <;> omega
    · obtain rfl : k = 6 := by omega
      go_wp2_with fail
      go_ret
      exact ⟨rfl, hb⟩

set_option maxRecDepth 20000 in
set_option maxHeartbeats 2000000 in
theorem eqSquare_same (F : Nat → Int) (w : World) :
    Calls Try.prog 15 #[.agg (u8s 36 F), .agg (u8s 36 F)] w fun e w' => e = .returned (.bool true) ∧ Below w.heap.size w w' := by
  obtain ⟨hb, hA, hB⟩ := boxes2 w (u8s 36 F) (u8s 36 F) 27 27
  go_enter Try.func15, Try.ntmps15
  go_wp2_with fail
  go_loopw [5] (fun i wr => ∃ k : Nat, k ≤ 6 ∧ i = .int .i64 k ∧ Blk wr w.heap.size (u8s 36 F) 27 ∧ Blk wr (w.heap.size + 1) (u8s 36 F) 27 ∧ Below w.heap.size w wr) (fun i _ => 6 - (intOf i).toNat)
  case atStart => exact ⟨0, by omega, rfl, hA, hB, hb⟩
  case round =>
    clear hA hB hb
    obtain ⟨k, hk, rfl, hA, hB, hb⟩ := hrel
    by_cases hlt : k < 6
    · go_wp2_with fail
      go_upto_region 4 with (fail)
      refine gen_region (ws := w) (w := _) (B := w.heap.size) (by kernel_rfl) (by kernel_rfl) (by kernel_rfl) (by kernel_rfl)
          (fun i => ([fun v _ => v = .int .i64 k, fun v _ => v = .pointer (some ⟨w.heap.size, k * 6, none⟩), fun v _ => v = .agg (u8s 6 fun j => F (k * 6 + j)), fun v _ => v = .int .i64 k, fun v _ => v = .pointer (some ⟨w.heap.size + 1, k * 6, none⟩), fun v _ => v = .agg (u8s 6 fun j => F (k * 6 + j)), fun v _ => v = .bool true, fun v _ => v = .bool false] : List (Value → World → Prop)).getD i (fun _ _ => True))
          (fun i => ([true, false, false, true, false, false, false, false] : List Bool).getD i true)
          0 (fun k => [].getD k 0) (fun k => [].getD k 0) (fun k => [].getD k 0) (fun k => [].getD k 0) (fun k => [].getD k 0) (fun k => [].getD k 0) (fun k => [].getD k (fun _ => 0)) (fun k => [].getD k (fun _ => 0)) (fun k => [].getD k 0) hb (Nat.le_refl _)
          (fun w' => Blk w' (w.heap.size) (u8s 36 F) 27 ∧ Blk w' (w.heap.size + 1) (u8s 36 F) 27 ∧ True) ⟨hA.drew, hB.drew, trivial⟩ (fun w1 w2 h hb => ⟨h.1.keep hb, h.2.1.keep hb, trivial⟩) ?_ ?_ ?_ ?_ ?_ ?_ ?_
      · exact fun k hk => absurd hk (by omega)
      · intro i v w1 w2 h hb
        rcases i with _|_|_|_|_|_|_|_|i
        · exact h
        · exact h
        · exact h
        · exact h
        · exact h
        · exact h
        · exact h
        · exact h
        · exact h
      · exact fun k hk => absurd hk (by omega)
      · exact fun k hk => absurd hk (by omega)
      · kernel_rfl
      · intro i o ho hz a w2 hBs hSx hBl hrd hpar
        rcases i with _|_|_|_|_|_|_|_|i
        · obtain rfl := Option.some.inj ho
          have e5 : a.eval (.tmp 5) = .int .i64 k := hpar 5 _ (by kernel_rfl) (by kernel_rfl)
          exact wpv_of (wp_move _ _ rfl e5) (fun _ _ => rfl)
        · obtain rfl := Option.some.inj ho
          obtain ⟨_, e10⟩ : ∃ _w : World, a.eval (.tmp 10) = .int .i64 k := (hrd 0 _ 10 rfl rfl (by kernel_rfl) (by kernel_rfl) (by decide)).1
          exact wpv_of (wp_index_arrN 27 25 6 6 _ _ rfl uSquare sRow (by decide) (w.heap.size) k .i64 (hpar 2 _ (by kernel_rfl) (by kernel_rfl)) e10 hlt) (fun _ _ => rfl)
        · obtain rfl := Option.some.inj ho
          obtain ⟨_, e11⟩ : ∃ _w : World, a.eval (.tmp 11) = .pointer (some ⟨w.heap.size, k * 6, none⟩) := (hrd 1 _ 11 rfl rfl (by kernel_rfl) (by kernel_rfl) (by decide)).1
          exact wpv_of (wp_load_midB 25 _ rfl _ (k * 6) e11 36 6 _ F _ hSx.1 (by omega) uRow sRow) (fun _ _ => rfl)
        · obtain rfl := Option.some.inj ho
          have e5 : a.eval (.tmp 5) = .int .i64 k := hpar 5 _ (by kernel_rfl) (by kernel_rfl)
          exact wpv_of (wp_move _ _ rfl e5) (fun _ _ => rfl)
        · obtain rfl := Option.some.inj ho
          obtain ⟨_, e13⟩ : ∃ _w : World, a.eval (.tmp 13) = .int .i64 k := (hrd 3 _ 13 rfl rfl (by kernel_rfl) (by kernel_rfl) (by decide)).1
          exact wpv_of (wp_index_arrN 27 25 6 6 _ _ rfl uSquare sRow (by decide) (w.heap.size + 1) k .i64 (hpar 3 _ (by kernel_rfl) (by kernel_rfl)) e13 hlt) (fun _ _ => rfl)
        · obtain rfl := Option.some.inj ho
          obtain ⟨_, e14⟩ : ∃ _w : World, a.eval (.tmp 14) = .pointer (some ⟨w.heap.size + 1, k * 6, none⟩) := (hrd 4 _ 14 rfl rfl (by kernel_rfl) (by kernel_rfl) (by decide)).1
          exact wpv_of (wp_load_midB 25 _ rfl _ (k * 6) e14 36 6 _ F _ hSx.2.1 (by omega) uRow sRow) (fun _ _ => rfl)
        · obtain rfl := Option.some.inj ho
          obtain ⟨_, e12⟩ : ∃ _w : World, a.eval (.tmp 12) = .agg (u8s 6 fun j => F (k * 6 + j)) := (hrd 2 _ 12 rfl rfl (by kernel_rfl) (by kernel_rfl) (by decide)).1
          obtain ⟨_, e15⟩ : ∃ _w : World, a.eval (.tmp 15) = .agg (u8s 6 fun j => F (k * 6 + j)) := (hrd 5 _ 15 rfl rfl (by kernel_rfl) (by kernel_rfl) (by decide)).1
          exact wpv_call 22 [.tmp 12, .tmp 15] _ rfl [.agg (u8s 6 fun j => F (k * 6 + j)), .agg (u8s 6 fun j => F (k * 6 + j))] (by simp only [List.map_cons, List.map_nil, e12, e15]) Try.call22 ((eqRow_same _ w2).mono fun _ _ ⟨h1, h2⟩ => ⟨_, h1, rfl, h2⟩)
        · obtain rfl := Option.some.inj ho
          obtain ⟨_, e16⟩ : ∃ _w : World, a.eval (.tmp 16) = .bool true := (hrd 6 _ 16 rfl rfl (by kernel_rfl) (by kernel_rfl) (by decide)).1
          exact wpv_of (wp_not _ _ true rfl e16) (fun _ _ => rfl)
        · simp at ho
      intro vals xE hBx hSx hS0 hcs hrs
      obtain ⟨hBl, hc0⟩ := hS0 rfl
      have e0 : vals 0 = .int .i64 k := hc0 0 (by simp)
      have e1 : vals 1 = .pointer (some ⟨w.heap.size, k * 6, none⟩) := hc0 1 (by simp)
      have e2 : vals 2 = .agg (u8s 6 fun j => F (k * 6 + j)) := hc0 2 (by simp)
      have e3 : vals 3 = .int .i64 k := hc0 3 (by simp)
      have e4 : vals 4 = .pointer (some ⟨w.heap.size + 1, k * 6, none⟩) := hc0 4 (by simp)
      have e5 : vals 5 = .agg (u8s 6 fun j => F (k * 6 + j)) := hc0 5 (by simp)
      have e6 : vals 6 = .bool true := hc0 6 (by simp)
      have e7 : vals 7 = .bool false := hc0 7 (by simp)
      simp only [List.length_cons, List.length_nil, Nat.zero_add, Nat.reduceAdd, List.replicate, putAll, if_true, Act.put, List.setIfInBounds_toArray, List.set_cons_zero, List.set_cons_succ, e0, e1, e2, e3, e4, e5, e6, e7]
      replace hA := hSx.1
      replace hB := hSx.2.1
      clear hcs hrs hS0 hSx e0 e1 e2 e3 e4 e5 e6 e7 hc0
      go_wp2_with fail
      go_roundw
      case rel => exact ⟨k + 1, by omega, by go_num, hA, hB, hBx⟩
      case measure => simp [intOf] <;> omega
    · obtain rfl : k = 6 := by omega
      go_wp2_with fail
      go_ret
      exact ⟨rfl, hb⟩
end Go.Proofs.Ytnkkkgaojhkniaa

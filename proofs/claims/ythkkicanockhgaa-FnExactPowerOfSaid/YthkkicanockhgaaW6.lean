/- Walks: rowOf, eqPoly. -/
import Derived.Test.YthkkicanockhgaaW5
import Derived.Test.YthkkicanockhgaaGrow
import Derived.BigQuiet
import Derived.Deep.QuietTactic
namespace Go.Proofs.Ythkkicanockhgaa
open Go.RowKit

theorem iInt : (Try.prog.info? 2).map (fun i => (i.zero, i.size, i.bytes)) = some (some (.int .i64 0), 1, 8) := by kernel_rfl

/-- An owned row of numbers reads as a row. -/
theorem IsRow_owned {w : World} {base e n : Nat} {v : Value} {f : Nat → Int} (h : w.ownsRow base e 1 v n ((List.range n).map fun j => .int .i64 (f j))) : IsRow w v ((List.range n).map f) := by
  have hlen : ((List.range n).map f).length = n := by simp
  rcases h with ⟨_, ⟨rfl, rfl⟩ | ⟨g, cap, cur, rfl, hg, hb, h1, h2, h3, h4⟩⟩
  · exact IsRow_nil w
  · refine ⟨_, cap, by rw [hlen], by omega, h2, fun h0 => ⟨g, 0, rfl, fun i hi => ?_⟩⟩
    rw [hlen] at hi
    rw [cell_of_row w g (0 + i) cur e _ hb, Nat.zero_add]
    have h5 : (cur.toList.take (n * 1))[i]? = some (.int .i64 (f i)) := by
      rw [h4, List.getElem?_map, List.getElem?_range hi]; rfl
    rw [List.getElem?_take, if_pos (by omega)] at h5
    rw [cf_map_range, if_pos hi]
    simpa using h5

set_option maxHeartbeats 1000000 in
theorem rowOf_any (f : Nat → Int) (w : World) (hf : ∀ i, i < 64 → 0 ≤ f i ∧ f i ≤ 255) :
    Calls Try.prog 49 #[.agg (u8s 64 f)] w fun e w' => ∃ v, e = .returned v ∧ IsRow w' v (mkp 64 f) ∧ Below w.heap.size w w' := by
  have hfH := Lib.hid hf; clear hf
  go_enter Try.func49, Try.ntmps49
  go_wp2_with (refine wpl_load_arr rfl 23 _ rfl _ rfl _ _ (Blk.new w _ _) _ _ uPoly sPoly ?_)
  go_loopw [3, 7] (fun v i wr => ∃ k : Nat, k ≤ 64 ∧ i = .int .i64 k ∧ wr.ownsRow (w.heap.size + 1) 2 1 v k ((List.range k).map fun j => .int .i64 (f j)) ∧ Below w.heap.size w wr ∧ w.heap.size + 1 ≤ wr.heap.size) (fun _ i _ => 64 - (intOf i).toNat)
  case atStart => exact ⟨0, by omega, rfl, World.ownsRow_nil _ _ _ _, below_new _ _, by simp⟩
  case round =>
    obtain ⟨k, hk, rfl, hown, hb, hsz⟩ := hrel
    by_cases hlt : k < 64
    · have hr1 := (hfH.out k hlt).1
      have hr2 := (hfH.out k hlt).2
      have hown2 := hown.alloc (.cells #[.int .i64 (f k)] 2)
      have hownH := Lib.hid hown2
      clear hown hown2
      go_wp2_with (first | (refine wpl_index_arr rfl 23 _ _ rfl 64 5 (u8s 64 f) (.int .u8) rfl .i64 k rfl hlt uPoly uByte rfl sByte _ (u8s_get f hlt) ?_) |
        (at_builtin; refine wpl_append_one rfl _ _ 49 rfl (w.heap.size + 1) 2 (.int .i64 0) 1 8 Try.underlying49 iInt rfl (by decide) (by decide) _ k _ rfl hownH.out wr.heap.size rfl [.int .i64 (f k)] rfl (one_new _ _ _) (by intro u hu; rw [List.mem_singleton] at hu; subst hu; rfl) (by omega) (by simp; omega) ?_))
      intro v' w2 hown3 hb2
      have hown4 : w2.ownsRow (w.heap.size + 1) 2 1 v' (k + 1) ((List.range (k + 1)).map fun j => .int .i64 (f j)) := by
        rw [List.range_succ, List.map_append]; exact hown3
      have hownH := Lib.hid hown4
      have hsz2 : w.heap.size + 1 ≤ w2.heap.size := by have := hb2.size; simp at this; omega
      have hb3 := (hb.alloc (by omega) (.cells #[.int .i64 (f k)] 2)).trans (hb2.mono (by omega))
      clear hown3 hown4 hb2
      go_wp2
      go_roundw
      case rel => exact ⟨k + 1, by omega, by go_num, hownH.out, hb3, hsz2⟩
      case measure => simp [intOf] <;> omega
    · obtain rfl : k = 64 := by omega
      have hrow := Lib.hid (IsRow_owned hown)
      clear hown
      go_wp2_with (go_at_call 86; refine (trimmed_any _ _ _ hrow.out).mono ?_; rintro e w' ⟨v', rfl, hr, rfl⟩)
      go_ret
      exact ⟨_, rfl, hr, hb⟩

set_option maxHeartbeats 400000 in
theorem eqPoly_same (f : Nat → Int) (w : World) :
    Calls Try.prog 18 #[.agg (u8s 64 f), .agg (u8s 64 f)] w fun e w' => e = .returned (.bool true) ∧ Below w.heap.size w w' := by
  have hb0 : Below w.heap.size w ((w.alloc (.cells (u8s 64 f) 23)).alloc (.cells (u8s 64 f) 23)) := (below_new w _).alloc (by simp) _
  have hB1 : Blk ((w.alloc (.cells (u8s 64 f) 23)).alloc (.cells (u8s 64 f) 23)) w.heap.size (u8s 64 f) 23 := (Blk.new w _ _).alloc _
  have hB2 : Blk ((w.alloc (.cells (u8s 64 f) 23)).alloc (.cells (u8s 64 f) 23)) (w.heap.size + 1) (u8s 64 f) 23 := by
    have := Blk.new (w.alloc (.cells (u8s 64 f) 23)) (u8s 64 f) 23; simpa using this
  go_enter Try.func18, Try.ntmps18
  go_wp2_with fail
  go_loopw [5] (fun i wr => ∃ k : Nat, k ≤ 64 ∧ i = .int .i64 k ∧ Blk wr w.heap.size (u8s 64 f) 23 ∧ Blk wr (w.heap.size + 1) (u8s 64 f) 23 ∧ Below w.heap.size w wr) (fun i _ => 64 - (intOf i).toNat)
  case atStart => exact ⟨0, by omega, rfl, hB1, hB2, hb0⟩
  case round =>
    obtain ⟨k, hk, rfl, b1, b2, hb⟩ := hrel
    by_cases hlt : k < 64
    · have c0 : wr.cell? ⟨w.heap.size, k, none⟩ = some (.int .u8 (f k)) := by rw [b1.cell, u8s_get _ hlt]
      have c1 : wr.cell? ⟨w.heap.size + 1, k, none⟩ = some (.int .u8 (f k)) := by rw [b2.cell, u8s_get _ hlt]
      have hi0 : (0 : Int) ≤ (k : Int) := by omega
      have hi1 : (k : Int) < 64 := by omega
      clear hB1 hB2 hb0
      go_wp2_with fail
      go_quiet (fail)
      go_wp2
      go_roundw
      case rel => exact ⟨k + 1, by omega, by go_num, b1, b2, ⟨hb.os, hb.tape, hb.output, hb.size, hb.block⟩⟩
      case measure => simp [intOf] <;> omega
    · obtain rfl : k = 64 := by omega
      go_wp2_with fail
      go_ret
      exact ⟨rfl, hb⟩
end Go.Proofs.Ythkkicanockhgaa

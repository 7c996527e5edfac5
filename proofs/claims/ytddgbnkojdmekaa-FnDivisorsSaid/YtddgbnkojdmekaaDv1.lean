/- Walks: the law's own helpers. -/
import Derived.Test.YtddgbnkojdmekaaE10D
import Derived.Test.YtddgbnkojdmekaaDr9
set_option linter.unusedVariables false
set_option linter.unusedSimpArgs false
namespace Go.Proofs.Ytddgbnkojdmekaa
open Go.RowKit
theorem OwnI.row {w : World} {B : Nat} {v : Value} {xs : List Int} (h : OwnI w B v xs) : IsRow w v xs := by
  have h2 : w.ownsRow B 2 1 v xs.length ((List.range xs.length).map fun j => .int .i64 (cf xs j)) := by
    unfold OwnI at h
    have e : (xs.map fun x => Value.int .i64 x) = (List.range xs.length).map fun j => .int .i64 (cf xs j) := by
      apply List.ext_getElem?
      intro j
      rw [List.getElem?_map, List.getElem?_map]
      by_cases hj : j < xs.length
      · rw [List.getElem?_range hj, List.getElem?_eq_getElem hj]
        show some (Value.int .i64 xs[j]) = some (.int .i64 (cf xs j))
        rw [cf_lt xs j hj]
      · rw [List.getElem?_eq_none (by omega), List.getElem?_eq_none (by simp; omega)]; rfl
    rwa [e] at h
  have h3 := IsRow_owned h2
  have e2 : (List.range xs.length).map (cf xs) = xs := by
    refine list_ext_cf (by simp) fun i => ?_
    rw [cf_map_range]; split
    · rfl
    · rw [cf_ge xs i (by omega)]
  rwa [e2] at h3

set_option maxHeartbeats 1000000 in
theorem likeInts_same (va vb : Value) (xs : List Int) (w : World) (ha : IsRow w va xs) (hb : IsRow w vb xs) :
    Calls Try.prog 15 #[va, vb] w fun e w' => e = .returned (.bool true) ∧ Below w.heap.size w w' := by
  obtain ⟨oa, ca, rfl, hlea, hcapa, hca⟩ := ha
  obtain ⟨ob, cb, rfl, hleb, hcapb, hcb⟩ := hb
  have hcaH := Lib.hid hca
  have hcbH := Lib.hid hcb
  unfold maxLen at hcapa hcapb
  clear hca hcb
  generalize xs.length = L at *
  have hl2 : ((L : Int) == (L : Int)) = true := beq_self_eq_true _
  go_enter Try.func15, Try.ntmps15
  go_wp2_with fail
  go_loopw [5] (fun i wr => ∃ k : Nat, k ≤ L ∧ i = .int .i64 k ∧ Below w.heap.size w wr) (fun i _ => L - (intOf i).toNat)
  case atStart => exact ⟨0, by omega, rfl, Below.refl _ _⟩
  case round =>
    obtain ⟨k, hk, rfl, hb⟩ := hrel
    by_cases hlt : k < L
    · obtain ⟨b1, o1, rfl, hc1⟩ := hcaH.out (by omega)
      obtain ⟨b2, o2, rfl, hc2⟩ := hcbH.out (by omega)
      have c1 := cell_below (hc1 k hlt) hb
      have c2 := cell_below (hc2 k hlt) hb
      have hi0 : (0 : Int) ≤ (k : Int) := by omega
      have hi1 : (k : Int) < (L : Int) := by omega
      clear hc1 hc2
      have heb : (cf xs k == cf xs k) = true := beq_self_eq_true _
      go_wp2_with fail
      go_quiet (fail)
      go_wp2
      go_roundw
      case rel => exact ⟨k + 1, by omega, by go_num, ⟨hb.os, hb.tape, hb.output, hb.size, hb.block⟩⟩
      case measure => simp [intOf] <;> omega
    · obtain rfl : k = L := by omega
      go_wp2_with fail
      go_ret
      exact ⟨rfl, hb⟩

/-- Numbers one behind the other. -/
def marks (k : Int) (n : Nat) : List Int := (List.range n).map fun i : Nat => k + (i : Int)
theorem marks_length (k : Int) (n : Nat) : (marks k n).length = n := by unfold marks; simp
theorem marks_cf (k : Int) (n i : Nat) (h : i < n) : cf (marks k n) i = k + (i : Int) := by unfold marks; rw [cf_map_range, if_pos h]

set_option maxHeartbeats 1000000 in
theorem big_any (oa : Option Addr) (n c : Nat) (w : World) (hn : n ≤ maxLen) : Calls Try.prog 4 #[.slice oa n c] w fun e w' => e = .returned (.bool (decide (4096 < (n : Int)))) ∧ w = w' := by
  unfold maxLen at hn
  go_enter Try.func4, Try.ntmps4
  go_wp2_with fail
  go_ret
  exact ⟨by simp, rfl⟩
end Go.Proofs.Ytddgbnkojdmekaa

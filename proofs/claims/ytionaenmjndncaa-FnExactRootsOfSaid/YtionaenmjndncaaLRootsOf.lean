/- The law FnExactRootsOf, walked. -/
import Derived.Test.YtionaenmjndncaaE10
set_option linter.unusedVariables false
set_option linter.unusedSimpArgs false
namespace Go.Proofs.Ytionaenmjndncaa
open Go.RowKit

theorem OwnI.row {w : World} {B : Nat} {v : Value} {xs : List Int} (h : OwnI w B v xs) : IsRow w v xs := by
  have h2 : w.ownsRow B 2 1 v xs.length ((List.range xs.length).map fun j => .int .i64 (cf xs j)) := by
    unfold OwnI at h
    have e : (xs.map fun x => Value.int .i64 x) = (List.range xs.length).map fun j => .int .i64 (cf xs j) := by
      apply List.ext_getElem?
      intro j
      rw [List.getElem?_map, List.getElem?_map]
      by_cases hj : j < xs.length
      · rw [List.getElem?_range hj, List.getElem?_eq_getElem hj]
        show some (Value.int .i64 xs[j]) = some (.int .i64 (cf xs j))
        rw [cf_lt xs j hj]
      · rw [List.getElem?_eq_none (by omega), List.getElem?_eq_none (by simp; omega)]; rfl
    rwa [e] at h
  have h3 := IsRow_owned h2
  have e2 : (List.range xs.length).map (cf xs) = xs := by
    refine list_ext_cf (by simp) fun i => ?_
    rw [cf_map_range]; split
    · rfl
    · rw [cf_ge xs i (by omega)]
  rwa [e2] at h3

set_option maxHeartbeats 1000000 in
theorem eqInt64S_same (va vb : Value) (xs : List Int) (w : World) (ha : IsRow w va xs) (hb : IsRow w vb xs) :
    Calls Try.prog 12 #[va, vb] w fun e w' => e = .returned (.bool true) ∧ Below w.heap.size w w' := by
  obtain ⟨oa, ca, rfl, hlea, hcapa, hca⟩ := ha
  obtain ⟨ob, cb, rfl, hleb, hcapb, hcb⟩ := hb
  have hcaH := Lib.hid hca
  have hcbH := Lib.hid hcb
  unfold maxLen at hcapa hcapb
  clear hca hcb
  generalize xs.length = L at *
  have hl2 : ((L : Int) == (L : Int)) = true := beq_self_eq_true _
  go_enter Try.func12, Try.ntmps12
  go_wp2_with fail
  go_loopw [5] (fun i wr => ∃ k : Nat, k ≤ L ∧ i = .int .i64 k ∧ Below w.heap.size w wr) (fun i _ => L - (intOf i).toNat)
  case atStart => exact ⟨0, by omega, rfl, Below.refl _ _⟩
  case round =>
    obtain ⟨k, hk, rfl, hb⟩ := hrel
    by_cases hlt : k < L
    · obtain ⟨b1, o1, rfl, hc1⟩ := hcaH.out (by omega)
      obtain ⟨b2, o2, rfl, hc2⟩ := hcbH.out (by omega)
      have c1 := cell_below (hc1 k hlt) hb
      have c2 := cell_below (hc2 k hlt) hb
      have hi0 : (0 : Int) ≤ (k : Int) := by omega
      have hi1 : (k : Int) < (L : Int) := by omega
      clear hc1 hc2
      have heb : (cf xs k == cf xs k) = true := beq_self_eq_true _
      go_wp2_with fail
      go_quiet (fail)
      go_wp2
      go_roundw
      case rel => exact ⟨k + 1, by omega, by go_num, ⟨hb.os, hb.tape, hb.output, hb.size, hb.block⟩⟩
      case measure => simp [intOf] <;> omega
    · obtain rfl : k = L := by omega
      go_wp2_with fail
      go_ret
      exact ⟨rfl, hb⟩

/-- Numbers one behind the other. -/
def marks (k : Int) (n : Nat) : List Int := (List.range n).map fun i : Nat => k + (i : Int)
theorem marks_length (k : Int) (n : Nat) : (marks k n).length = n := by unfold marks; simp
theorem marks_cf (k : Int) (n i : Nat) (h : i < n) : cf (marks k n) i = k + (i : Int) := by unfold marks; rw [cf_map_range, if_pos h]

set_option maxHeartbeats 1000000 in
theorem markInt64S_any (v : Value) (xs : List Int) (w : World) (B : Nat) (h : OwnI w B v xs) (hl : xs.length ≤ 1000) :
    Calls Try.prog 13 #[v, .int .i64 1] w fun e w' => e = .returned (.int .i64 (1 + (xs.length : Int))) ∧ OwnI w' B v (marks 1 xs.length) ∧ Below B w w' := by
  unfold OwnI at *
  rcases h with ⟨h1, ⟨rfl, h2⟩ | ⟨g, cap, cur, rfl, hg, hb, h2, h3, h4, h5⟩⟩
  · have hx : xs = [] := List.length_eq_zero_iff.1 h2
    subst hx
    clear h1 h2 hl
    go_enter Try.func13, Try.ntmps13
    go_wp2_with fail
    go_loop [1, 5] (fun kk i => kk = .int .i64 1 ∧ i = .int .i64 0) (fun _ _ => 0)
    case atStart => exact ⟨rfl, rfl⟩
    case round =>
      obtain ⟨rfl, rfl⟩ := hrel
      go_wp2_with fail
      go_ret
      exact ⟨rfl, by rw [marks_length]; exact World.ownsRow_nil _ _ _ _, Below.refl _ _⟩
  · have hB : Blk w g cur 2 := hb
    have hcur : ∀ i, i < xs.length → ∃ x, cur[i]? = some (.int .i64 x) := fun i hi => by
      have h6 : (cur.toList.take (xs.length * 1))[i]? = some (.int .i64 xs[i]) := by rw [h5, List.getElem?_map, List.getElem?_eq_getElem hi]; rfl
      rw [List.getElem?_take, if_pos (by omega)] at h6
      exact ⟨_, by simpa using h6⟩
    have hcurH := Lib.hid hcur
    generalize xs.length = L at *
    have hcap2 : cap ≤ 9223372036854775807 := by unfold maxLen at h3; omega
    clear h5 hcur h1 hb
    go_enter Try.func13, Try.ntmps13
    go_wp2_with fail
    go_loopw [1, 5] (fun kk i wr => ∃ (k : Nat) (cw : Array Value), k ≤ L ∧ kk = .int .i64 (1 + (k : Int)) ∧ i = .int .i64 k ∧ Blk wr g cw 2 ∧ cw.size = cap * 1 ∧ (∀ j, j < k → cw[j]? = some (.int .i64 (1 + (j : Int)))) ∧ (∀ j, j < L → ∃ x, cw[j]? = some (.int .i64 x)) ∧ Below B w wr) (fun _ i _ => L - (intOf i).toNat)
    case atStart => exact ⟨0, cur, by omega, by simp, rfl, hB, h4, fun j hj => absurd hj (by omega), hcurH.out, Below.refl _ _⟩
    case round =>
      clear hB
      obtain ⟨k, cw, hk, rfl, rfl, hB, hsz, hdone, hsome, hb⟩ := hrel
      have hdoneH := Lib.hid hdone
      have hsomeH := Lib.hid hsome
      clear hdone hsome
      by_cases hlt : k < L
      · obtain ⟨x, hx⟩ := hsomeH.out k hlt
        have c0 : wr.cell? ⟨g, k, none⟩ = some (.int .i64 x) := by rw [hB.cell, hx]
        have c1 := hB.free k
        clear hx
        go_wp2_with fail
        go_roundw
        case rel =>
          refine ⟨k + 1, _, by omega, by first | go_num | (congr 1; omega), by go_num, hB.set k _, by simpa using hsz, fun j hj => ?_, fun j hj => ?_, hb.setCell hg _⟩
          · rw [Array.getElem?_setIfInBounds]
            by_cases e : k = j
            · subst e; rw [if_pos rfl, if_pos (by omega)]
            · rw [if_neg e]; exact hdoneH.out j (by omega)
          · rw [Array.getElem?_setIfInBounds]
            by_cases e : k = j
            · subst e; rw [if_pos rfl, if_pos (by omega)]; exact ⟨_, rfl⟩
            · rw [if_neg e]; exact hsomeH.out j hj
        case measure => simp [intOf] <;> omega
      · obtain rfl : k = L := by omega
        have hown : wr.ownsRow B 2 1 (.slice (some ⟨g, 0, none⟩) k cap) (marks 1 k).length ((marks 1 k).map fun x => .int .i64 x) := by
          rw [marks_length]
          refine ⟨by rw [List.length_map, marks_length]; omega, .inr ⟨g, cap, cw, rfl, hg, hB, h2, h3, hsz, ?_⟩⟩
          apply List.ext_getElem?
          intro j
          rw [List.getElem?_take, List.getElem?_map]
          by_cases hj : j < k
          · rw [if_pos (by omega)]
            have := hdoneH.out j hj
            unfold marks
            rw [List.getElem?_map, List.getElem?_range hj]
            simpa using this
          · rw [if_neg (by omega), List.getElem?_eq_none (by rw [marks_length]; omega)]; rfl
        have hownH := Lib.hid hown
        clear hown
        go_wp2_with fail
        go_ret
        exact ⟨rfl, hownH.out, hb⟩

set_option maxHeartbeats 1000000 in
theorem heldInt64S_any (v : Value) (n : Nat) (w : World) (h : IsRow w v (marks 1 n)) (hn : n ≤ 1000) :
    Calls Try.prog 14 #[v, .int .i64 1] w fun e w' => e = .returned (.int .i64 (1 + (n : Int))) ∧ w = w' := by
  obtain ⟨oa, ca, rfl, hlea, hcapa, hca⟩ := h
  rw [marks_length] at *
  have hca2 : 0 < n → ∃ b off, oa = some ⟨b, off, none⟩ ∧ ∀ i, i < n → w.cell? ⟨b, off + i, none⟩ = some (.int .i64 (1 + (i : Int))) := fun h0 => by
    obtain ⟨b, off, h1, h2⟩ := hca h0
    exact ⟨b, off, h1, fun i hi => by rw [h2 i hi, marks_cf 1 n i hi]⟩
  have hcaH := Lib.hid hca2
  unfold maxLen at hcapa
  clear hca hca2
  go_enter Try.func14, Try.ntmps14
  go_wp2_with fail
  go_loop [1, 5] (fun kk i => ∃ k : Nat, k ≤ n ∧ kk = .int .i64 (1 + (k : Int)) ∧ i = .int .i64 k) (fun _ i => n - (intOf i).toNat)
  case atStart => exact ⟨0, by omega, by simp, rfl⟩
  case round =>
    obtain ⟨k, hk, rfl, rfl⟩ := hrel
    by_cases hlt : k < n
    · obtain ⟨b1, o1, rfl, hc1⟩ := hcaH.out (by omega)
      have c1 := hc1 k hlt
      clear hc1
      have heb : ((1 + (k : Int)) == (1 + (k : Int))) = true := beq_self_eq_true _
      go_wp2_with fail
      go_round
      case rel => exact ⟨k + 1, by omega, by first | go_num | (congr 1; omega), by go_num⟩
      case measure => simp [intOf] <;> omega
    · obtain rfl : k = n := by omega
      go_wp2_with fail
      go_ret
      exact ⟨rfl, rfl⟩

set_option maxRecDepth 20000 in
set_option maxHeartbeats 2000000 in
theorem lawRootsOf_any (a0 : Int) (a1 : Nat → Int) (w : World) (w0 : (Lit.int .i64 a0).wf = true) (w1 : ∀ i, 0 ≤ a1 i ∧ a1 i ≤ 255) :
    Calls Try.prog 3 #[.int .i64 a0, .agg (u8s 64 a1)] w fun e w' => e = .returned (.bool true) ∧ Below w.heap.size w w' := by
  obtain ⟨xs, c, hl, hS, hI⟩ := RootsOf_pair a0 a1 w0 w1
  unfold roPost at hS hI
  have HS := Lib.hid hS
  have HI := Lib.hid hI
  clear hS hI w0 w1
  have hcc : (c == c) = true := beq_self_eq_true _
  have hmm : ((1 + (xs.length : Int)) == (1 + (xs.length : Int))) = true := beq_self_eq_true _
  have hb := below_new w (.cells (u8s 64 a1) 22)
  have hA := Blk.new w (u8s 64 a1) 22
  go_enter Try.func3, Try.ntmps3
  go_wp2_with ((with_reducible refine wpl_guard ?_); first | (refine wpl_load_arr rfl 22 _ rfl _ rfl _ _ hA _ _ uArr64 sArr64 ?_))
  refine (toPoly_any a1 _).mono ?_
  rintro e x1 ⟨rfl, hn⟩
  replace hA := hA.keep hn
  replace hb := below_step hb hn
  clear hn
  go_wp2_with fail
  refine (HS.out _).mono ?_
  rintro e x2 ⟨v0, rfl, k0, hn⟩
  have h0 := Lib.hid k0
  replace hA := hA.keep hn
  replace hb := below_step hb hn
  clear hn k0
  go_wp2_with ((with_reducible refine wpl_guard ?_); first | (refine wpl_load_arr rfl 22 _ rfl _ rfl _ _ hA _ _ uArr64 sArr64 ?_))
  refine (toPoly_any a1 _).mono ?_
  rintro e x3 ⟨rfl, hn⟩
  replace hA := hA.keep hn
  replace h0 := Lib.hid (h0.out.below hn)
  replace hb := below_step hb hn
  clear hn
  go_wp2_with fail
  refine (HI.out _).mono ?_
  rintro e x4 ⟨v1, rfl, k1, hn⟩
  have h1 := Lib.hid k1
  have h01 := Lib.hid (h0.out.below hn)
  have hA1 := hA.keep hn
  have hn1 := Lib.hid hn
  clear hn k1
  go_wp2_with fail
  refine (eqInt64S_same _ _ xs _ h1.out.row h01.out.row).mono ?_
  rintro e x4b ⟨rfl, hn⟩
  replace h1 := Lib.hid (h1.out.below hn)
  replace hA1 := hA1.keep hn
  replace hn1 := Lib.hid (below_step hn1.out hn)
  clear hn h01
  go_wp2_with fail
  refine (markInt64S_any v1 xs _ _ h1.out (by omega)).mono ?_
  rintro e x5 ⟨rfl, k1, hn⟩
  have h2 := Lib.hid k1
  have hn2 := Lib.hid (hn1.out.trans hn)
  have hA2 := hA.keep hn2.out
  have h02 := Lib.hid (h0.out.below hn2.out)
  replace hb := below_step hb hn2.out
  clear hn k1 h1 hA1 hn1 hn2 hA h0
  go_wp2_with fail
  refine (heldInt64S_any v1 _ _ h2.out.row (by omega)).mono ?_
  rintro e x6 ⟨rfl, rfl⟩
  go_wp2_with ((with_reducible refine wpl_guard ?_); first | (refine wpl_load_arr rfl 22 _ rfl _ rfl _ _ hA2 _ _ uArr64 sArr64 ?_))
  refine (toPoly_any a1 _).mono ?_
  rintro e x7 ⟨rfl, hn⟩
  replace h2 := Lib.hid (h2.out.below hn)
  replace h02 := Lib.hid (h02.out.below hn)
  replace hb := below_step hb hn
  clear hn hA2
  go_wp2_with fail
  refine (HI.out _).mono ?_
  rintro e x8 ⟨v2, rfl, k1, hn⟩
  have h3 := Lib.hid k1
  replace h2 := Lib.hid (h2.out.below hn)
  replace h02 := Lib.hid (h02.out.below hn)
  replace hb := below_step hb hn
  clear hn k1
  go_wp2_with fail
  refine (eqInt64S_same _ _ xs _ h3.out.row h02.out.row).mono ?_
  rintro e x9b ⟨rfl, hn⟩
  replace h2 := Lib.hid (h2.out.below hn)
  replace hb := below_step hb hn
  clear hn h3 h02
  go_wp2_with fail
  refine (heldInt64S_any v1 _ _ h2.out.row (by omega)).mono ?_
  rintro e x9 ⟨rfl, rfl⟩
  go_wp2_with fail
  go_ret
  exact ⟨rfl, hb⟩
end Go.Proofs.Ytionaenmjndncaa

/- Walks: vectors and matrices as rows of numbers. -/
import Derived.Test.YtnkkkgaojhkniabM6
import Derived.Test.YtnkkkgaojhkniabE2
set_option linter.unusedVariables false
set_option linter.unusedSimpArgs false
namespace Go.Proofs.Ytnkkkgaojhkniab
open Go.RowKit

/-- The cells of a row lie in a block of numbers. -/
def RowT (w : World) (v : Value) : Prop := ∀ k, v.ownBlock = some k → ∃ cur fz, w.heap[k]? = some (.cells cur 2 fz)
theorem RowT.below {w w' : World} {v : Value} (h : RowT w v) (hb : Below w.heap.size w w') : RowT w' v := fun k hk => by
  obtain ⟨cur, fz, he⟩ := h k hk
  exact ⟨cur, fz, by rw [hb.block k (Array.getElem?_eq_some_iff.1 he).1]; exact he⟩
theorem RowT_owned {w : World} {base n : Nat} {v : Value} {vs : List Value} (h : w.ownsRow base 2 1 v n vs) : RowT w v := fun k hk => by
  rcases h.2 with ⟨rfl, _⟩ | ⟨g, cap, cur, rfl, _, hg, _⟩
  · cases hk
  · obtain rfl : g = k := by simpa [Value.ownBlock] using hk
    exact ⟨cur, _, hg⟩
set_option maxHeartbeats 1000000 in
theorem trimmed_own (v : Value) (xs : List Int) (w : World) (h : IsRow w v xs) :
    Calls Try.prog 46 #[v] w fun e w' => ∃ v', e = .returned v' ∧ IsRow w v' (trim xs) ∧ (∀ k, v'.ownBlock = some k → v.ownBlock = some k) ∧ w = w' := by
  obtain ⟨oa, cap, rfl, hle, hcap, hcell⟩ := h
  have hcellH := Lib.hid hcell
  have hcapH := Lib.hid hcap
  unfold maxLen at hcap
  have hcap2 : xs.length ≤ 9223372036854775807 := by omega
  clear hcell hcap
  generalize hL : xs.length = L at *
  have hLH := Lib.hid hL
  clear hL
  go_enter Try.func46, Try.ntmps46
  go_wp2_with fail
  go_loop [3] (fun i => ∃ k : Nat, k ≤ L ∧ i = .int .i64 (k : Int) ∧ ∀ j, k ≤ j → cf xs j = 0) (fun i => (intOf i).toNat)
  case atStart => exact ⟨L, Nat.le_refl _, rfl, fun j hj => cf_ge _ _ (by rw [hLH.out]; exact hj)⟩
  case round =>
    obtain ⟨k, hk, hi, hall⟩ := hrel
    have hallH := Lib.hid hall; clear hall
    by_cases h0 : k = 0
    · subst h0
      simp only [Int.natCast_zero] at hi
      subst hi
      go_wp2_with fail
      go_ret
      have hfin := trim_len_take xs 0 (by omega) hallH.out (Or.inl rfl)
      rw [hfin]
      exact ⟨_, rfl, IsRow_cut (by omega) (Nat.le_refl _) (by unfold maxLen; omega) (by rw [hLH.out]; exact hcellH.out), fun _ h => by (cases oa <;> exact h), rfl⟩
    · obtain ⟨m, rfl⟩ : ∃ m, k = m + 1 := ⟨k - 1, by omega⟩
      subst hi
      obtain ⟨b, off, rfl, hc⟩ := hcellH.out (by omega)
      have c0 := hc m (by omega)
      clear hc
      by_cases hz : cf xs m = 0
      · have hzb : (cf xs m == 0) = true := by simpa using hz
        have hzH := Lib.hid hz; clear hz
        go_wp2_with fail
        go_round
        case rel => exact ⟨m, by omega, by go_num, fun j h1 => by
          by_cases e1 : j = m
          · subst e1; exact hzH.out
          · exact hallH.out j (by omega)⟩
        case measure => simp [intOf] <;> omega
      · have hzb : (cf xs m == 0) = false := by simpa using hz
        have hfin := Lib.hid (trim_len_take xs (m + 1) (by rw [hLH.out]; omega) hallH.out (Or.inr (by simpa using hz)))
        clear hz
        go_wp2_with fail
        go_ret
        rw [hfin.out]
        refine ⟨_, rfl, ?_, fun _ h => h, rfl⟩
        have h3 := IsRow_cut (w := w) (oa := some ⟨b, off, none⟩) (xs := xs) (k := m + 1) (cap := m + 1) (by rw [hLH.out]; omega) (Nat.le_refl _) (by unfold maxLen; omega) (by rw [hLH.out]; exact hcellH.out)
        simpa using h3

set_option maxHeartbeats 1000000 in
theorem vector_any (f : Nat → Int) (w : World) (hf : ∀ i, i < 6 → 0 ≤ f i ∧ f i ≤ 255) :
    Calls Try.prog 69 #[.agg (u8s 6 f)] w fun e w' => ∃ v, e = .returned v ∧ IsRow w' v (mkp 6 f) ∧ RowT w' v ∧ Below w.heap.size w w' := by
  have hfH := Lib.hid hf; clear hf
  go_enter Try.func69, Try.ntmps69
  go_wp2_with (refine wpl_load_arr rfl 28 _ rfl _ rfl _ _ (Blk.new w _ _) _ _ uRow sRow ?_)
  go_loopw [3, 7] (fun v i wr => ∃ k : Nat, k ≤ 6 ∧ i = .int .i64 k ∧ wr.ownsRow (w.heap.size + 1) 2 1 v k ((List.range k).map fun j => .int .i64 (f j)) ∧ Below w.heap.size w wr ∧ w.heap.size + 1 ≤ wr.heap.size) (fun _ i _ => 6 - (intOf i).toNat)
  case atStart => exact ⟨0, by omega, rfl, World.ownsRow_nil _ _ _ _, below_new _ _, by simp⟩
  case round =>
    obtain ⟨k, hk, rfl, hown, hb, hsz⟩ := hrel
    by_cases hlt : k < 6
    · have hr1 := (hfH.out k hlt).1
      have hr2 := (hfH.out k hlt).2
      have hown2 := hown.alloc (.cells #[.int .i64 (f k)] 2)
      have hownH := Lib.hid hown2
      clear hown hown2
      go_wp2_with (first | (refine wpl_index_arr rfl 28 _ _ rfl 6 5 (u8s 6 f) (.int .u8) rfl .i64 k rfl hlt uRow uByte rfl sByte _ (u8s_get f hlt) ?_) |
        (at_builtin; refine wpl_append_one rfl _ _ 55 rfl (w.heap.size + 1) 2 (.int .i64 0) 1 8 Try.underlying55 iInt rfl (by decide) (by decide) _ k _ rfl hownH.out wr.heap.size rfl [.int .i64 (f k)] rfl (one_new _ _ _) (by intro u hu; rw [List.mem_singleton] at hu; subst hu; rfl) (by omega) (by simp; omega) ?_))
      intro v' w2 hown3 hb2
      have hown4 : w2.ownsRow (w.heap.size + 1) 2 1 v' (k + 1) ((List.range (k + 1)).map fun j => .int .i64 (f j)) := by
        rw [List.range_succ, List.map_append]; exact hown3
      have hownH := Lib.hid hown4
      have hsz2 : w.heap.size + 1 ≤ w2.heap.size := by have := hb2.size; simp at this; omega
      have hb3 := (hb.alloc (by omega) (.cells #[.int .i64 (f k)] 2)).trans (hb2.mono (by omega))
      clear hown3 hown4 hb2
      go_wp2
      go_roundw
      case rel => exact ⟨k + 1, by omega, by go_num, hownH.out, hb3, hsz2⟩
      case measure => simp [intOf] <;> omega
    · obtain rfl : k = 6 := by omega
      have hrow := Lib.hid (IsRow_owned hown)
      have hty := Lib.hid (RowT_owned hown)
      clear hown
      go_wp2_with (go_at_call 46; refine (trimmed_own _ _ _ hrow.out).mono ?_; rintro e w' ⟨v', rfl, hr, ho, rfl⟩)
      go_ret
      exact ⟨_, rfl, hr, fun k h => hty.out k (ho k h), hb⟩


/-- A slice of rows. -/
def IsRows (w : World) (v : Value) (n : Nat) (M : Nat → List Int) : Prop :=
  ∃ (R : Nat → Value) (oa : Option Addr) (cap : Nat), v = .slice oa n cap ∧ n ≤ cap ∧ cap ≤ maxLen ∧
    (0 < n → ∃ b o, oa = some ⟨b, o, none⟩ ∧ ∀ i, i < n → w.cell? ⟨b, o + i, none⟩ = some (R i)) ∧ ∀ i, i < n → IsRow w (R i) (M i)
theorem IsRows.below {w w' : World} {v : Value} {n : Nat} {M : Nat → List Int} (h : IsRows w v n M) (hb : Below w.heap.size w w') : IsRows w' v n M := by
  obtain ⟨R, oa, cap, h1, h2, h3, h4, h5⟩ := h
  refine ⟨R, oa, cap, h1, h2, h3, fun h0 => ?_, fun i hi => (h5 i hi).below hb⟩
  obtain ⟨b, o, e, hc⟩ := h4 h0
  exact ⟨b, o, e, fun i hi => by rw [hb.cell (block_lt_of_cell (hc i hi))]; exact hc i hi⟩
theorem owned_cell {w : World} {base e n : Nat} {v : Value} {R : Nat → Value} (h : w.ownsRow base e 1 v n ((List.range n).map R)) :
    ∃ (oa : Option Addr) (cap : Nat), v = .slice oa n cap ∧ n ≤ cap ∧ cap ≤ maxLen ∧ (0 < n → ∃ b o, oa = some ⟨b, o, none⟩ ∧ ∀ i, i < n → w.cell? ⟨b, o + i, none⟩ = some (R i)) := by
  rcases h with ⟨_, ⟨rfl, rfl⟩ | ⟨g, cap, cur, rfl, hg, hb, h1, h2, h3, h4⟩⟩
  · exact ⟨none, 0, rfl, Nat.le_refl _, Nat.zero_le _, fun h => absurd h (by omega)⟩
  · refine ⟨_, cap, rfl, h1, h2, fun h0 => ⟨g, 0, rfl, fun i hi => ?_⟩⟩
    rw [cell_of_row w g (0 + i) cur e _ hb, Nat.zero_add]
    have h5 : (cur.toList.take (n * 1))[i]? = some (R i) := by
      rw [h4, List.getElem?_map, List.getElem?_range hi]; rfl
    rw [List.getElem?_take, if_pos (by omega)] at h5
    simpa using h5
theorem IsRows_owned {w : World} {base e n : Nat} {v : Value} {R : Nat → Value} {M : Nat → List Int} (h : w.ownsRow base e 1 v n ((List.range n).map R)) (hR : ∀ i, i < n → IsRow w (R i) (M i)) : IsRows w v n M := by
  obtain ⟨oa, cap, h1, h2, h3, h4⟩ := owned_cell h
  exact ⟨R, oa, cap, h1, h2, h3, h4, hR⟩
/-- The block of a slice of rows is no block of numbers. -/
theorem rows_ne {w : World} {base n : Nat} {v r : Value} {vs : List Value} (h : w.ownsRow base 55 1 v n vs) (hr : RowT w r) : ∀ k, r.ownBlock = some k → some k ≠ v.ownBlock := fun k hk e => by
  obtain ⟨cur, fz, he⟩ := hr k hk
  rcases h.2 with ⟨rfl, _⟩ | ⟨g, cap, cur', rfl, _, hg, _⟩
  · cases e
  · obtain rfl : k = g := by simpa [Value.ownBlock] using e
    rw [he] at hg
    injection hg with hg; injection hg with _ h2
    exact absurd h2 (by decide)
theorem IsRow.grown {w w' : World} {r v : Value} {xs : List Int} (h : IsRow w r xs) (hg : w.grownBy w' v.ownBlock) (hne : ∀ k, r.ownBlock = some k → some k ≠ v.ownBlock) : IsRow w' r xs := by
  obtain ⟨oa, cap, rfl, h2, h3, h4⟩ := h
  refine ⟨oa, cap, rfl, h2, h3, fun hl => ?_⟩
  obtain ⟨b, off, rfl, h6⟩ := h4 hl
  exact ⟨b, off, rfl, fun i hi => hg.cell (h6 i hi) (hne b rfl)⟩
theorem RowT.grown {w w' : World} {r v : Value} (h : RowT w r) (hg : w.grownBy w' v.ownBlock) (hne : ∀ k, r.ownBlock = some k → some k ≠ v.ownBlock) : RowT w' r := fun k hk => by
  obtain ⟨cur, fz, he⟩ := h k hk
  exact ⟨cur, fz, by rw [hg.block k (Array.getElem?_eq_some_iff.1 he).1 (hne k hk)]; exact he⟩
end Go.Proofs.Ytnkkkgaojhkniab

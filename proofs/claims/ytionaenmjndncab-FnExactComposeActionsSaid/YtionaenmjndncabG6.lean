/- Walks: rows of polynomials, with their blocks' type. -/
import Derived.Test.YtionaenmjndncabG5
set_option linter.unusedVariables false
set_option linter.unusedSimpArgs false
namespace Go.Proofs.Ytionaenmjndncab
open Go.RowKit
/-- The cells of a row lie in a block of numbers. -/
def RowT (w : World) (v : Value) : Prop := ∀ k, v.ownBlock = some k → ∃ cur fz, w.heap[k]? = some (.cells cur 2 fz)
theorem RowT.below {w w' : World} {v : Value} (h : RowT w v) (hb : Below w.heap.size w w') : RowT w' v := fun k hk => by
  obtain ⟨cur, fz, he⟩ := h k hk
  exact ⟨cur, fz, by rw [hb.block k (Array.getElem?_eq_some_iff.1 he).1]; exact he⟩
theorem RowT_owned {w : World} {base n : Nat} {v : Value} {vs : List Value} (h : w.ownsRow base 2 1 v n vs) : RowT w v := fun k hk => by
  rcases h.2 with ⟨rfl, _⟩ | ⟨g, cap, cur, rfl, _, hg, _⟩
  · cases hk
  · obtain rfl : g = k := by simpa [Value.ownBlock] using hk
    exact ⟨cur, _, hg⟩
set_option maxHeartbeats 1000000 in
theorem trimmed_own (v : Value) (xs : List Int) (w : World) (h : IsRow w v xs) :
    Calls Try.prog 68 #[v] w fun e w' => ∃ v', e = .returned v' ∧ IsRow w v' (trim xs) ∧ (∀ k, v'.ownBlock = some k → v.ownBlock = some k) ∧ w = w' := by
  obtain ⟨oa, cap, rfl, hle, hcap, hcell⟩ := h
  have hcellH := Lib.hid hcell
  have hcapH := Lib.hid hcap
  unfold maxLen at hcap
  have hcap2 : xs.length ≤ 9223372036854775807 := by omega
  clear hcell hcap
  generalize hL : xs.length = L at *
  have hLH := Lib.hid hL
  clear hL
  go_enter Try.func68, Try.ntmps68
  go_wp2_with fail
  go_loop [3] (fun i => ∃ k : Nat, k ≤ L ∧ i = .int .i64 (k : Int) ∧ ∀ j, k ≤ j → cf xs j = 0) (fun i => (intOf i).toNat)
  case atStart => exact ⟨L, Nat.le_refl _, rfl, fun j hj => cf_ge _ _ (by rw [hLH.out]; exact hj)⟩
  case round =>
    obtain ⟨k, hk, hi, hall⟩ := hrel
    have hallH := Lib.hid hall; clear hall
    by_cases h0 : k = 0
    · subst h0
      simp only [Int.natCast_zero] at hi
      subst hi
      go_wp2_with fail
      go_ret
      have hfin := trim_len_take xs 0 (by omega) hallH.out (Or.inl rfl)
      rw [hfin]
      exact ⟨_, rfl, IsRow_cut (by omega) (Nat.le_refl _) (by unfold maxLen; omega) (by rw [hLH.out]; exact hcellH.out), fun _ h => by (cases oa <;> exact h), rfl⟩
    · obtain ⟨m, rfl⟩ : ∃ m, k = m + 1 := ⟨k - 1, by omega⟩
      subst hi
      obtain ⟨b, off, rfl, hc⟩ := hcellH.out (by omega)
      have c0 := hc m (by omega)
      clear hc
      by_cases hz : cf xs m = 0
      · have hzb : (cf xs m == 0) = true := by simpa using hz
        have hzH := Lib.hid hz; clear hz
        go_wp2_with fail
        go_round
        case rel => exact ⟨m, by omega, by go_num, fun j h1 => by
          by_cases e1 : j = m
          · subst e1; exact hzH.out
          · exact hallH.out j (by omega)⟩
        case measure => simp [intOf] <;> omega
      · have hzb : (cf xs m == 0) = false := by simpa using hz
        have hfin := Lib.hid (trim_len_take xs (m + 1) (by rw [hLH.out]; omega) hallH.out (Or.inr (by simpa using hz)))
        clear hz
        go_wp2_with fail
        go_ret
        rw [hfin.out]
        refine ⟨_, rfl, ?_, fun _ h => h, rfl⟩
        have h3 := IsRow_cut (w := w) (oa := some ⟨b, off, none⟩) (xs := xs) (k := m + 1) (cap := m + 1) (by rw [hLH.out]; omega) (Nat.le_refl _) (by unfold maxLen; omega) (by rw [hLH.out]; exact hcellH.out)
        simpa using h3

set_option maxHeartbeats 1000000 in
theorem rowOf_typed (f : Nat → Int) (w : World) (hf : ∀ i, i < 64 → 0 ≤ f i ∧ f i ≤ 255) :
    Calls Try.prog 33 #[.agg (u8s 64 f)] w fun e w' => ∃ v, e = .returned v ∧ IsRow w' v (mkp 64 f) ∧ RowT w' v ∧ Below w.heap.size w w' := by
  have hfH := Lib.hid hf; clear hf
  go_enter Try.func33, Try.ntmps33
  go_wp2_with (refine wpl_load_arr rfl 23 _ rfl _ rfl _ _ (Blk.new w _ _) _ _ uPoly sPoly ?_)
  go_loopw [3, 7] (fun v i wr => ∃ k : Nat, k ≤ 64 ∧ i = .int .i64 k ∧ wr.ownsRow (w.heap.size + 1) 2 1 v k ((List.range k).map fun j => .int .i64 (f j)) ∧ Below w.heap.size w wr ∧ w.heap.size + 1 ≤ wr.heap.size) (fun _ i _ => 64 - (intOf i).toNat)
  case atStart => exact ⟨0, by omega, rfl, World.ownsRow_nil _ _ _ _, below_new _ _, by simp⟩
  case round =>
    obtain ⟨k, hk, rfl, hown, hb, hsz⟩ := hrel
    by_cases hlt : k < 64
    · have hr1 := (hfH.out k hlt).1
      have hr2 := (hfH.out k hlt).2
      have hown2 := hown.alloc (.cells #[.int .i64 (f k)] 2)
      have hownH := Lib.hid hown2
      clear hown hown2
      go_wp2_with (first | (refine wpl_index_arr rfl 23 _ _ rfl 64 5 (u8s 64 f) (.int .u8) rfl .i64 k rfl hlt uPoly uByte rfl sByte _ (u8s_get f hlt) ?_) |
        (at_builtin; refine wpl_append_one rfl _ _ 48 rfl (w.heap.size + 1) 2 (.int .i64 0) 1 8 Try.underlying48 iInt rfl (by decide) (by decide) _ k _ rfl hownH.out wr.heap.size rfl [.int .i64 (f k)] rfl (one_new _ _ _) (by intro u hu; rw [List.mem_singleton] at hu; subst hu; rfl) (by omega) (by simp; omega) ?_))
      intro v' w2 hown3 hb2
      have hown4 : w2.ownsRow (w.heap.size + 1) 2 1 v' (k + 1) ((List.range (k + 1)).map fun j => .int .i64 (f j)) := by
        rw [List.range_succ, List.map_append]; exact hown3
      have hownH := Lib.hid hown4
      have hsz2 : w.heap.size + 1 ≤ w2.heap.size := by have := hb2.size; simp at this; omega
      have hb3 := (hb.alloc (by omega) (.cells #[.int .i64 (f k)] 2)).trans (hb2.mono (by omega))
      clear hown3 hown4 hb2
      go_wp2
      go_roundw
      case rel => exact ⟨k + 1, by omega, by go_num, hownH.out, hb3, hsz2⟩
      case measure => simp [intOf] <;> omega
    · obtain rfl : k = 64 := by omega
      have hrow := Lib.hid (IsRow_owned hown)
      have hty := Lib.hid (RowT_owned hown)
      clear hown
      go_wp2_with (go_at_call 68; refine (trimmed_own _ _ _ hrow.out).mono ?_; rintro e w' ⟨v', rfl, hr, ho, rfl⟩)
      go_ret
      exact ⟨_, rfl, hr, fun k h => hty.out k (ho k h), hb⟩

end Go.Proofs.Ytionaenmjndncab

/- Walks: rows of coefficients: trimmed, degree, lead, at, reduce; the reference's degree. -/
import Derived.Test.YthkkicanockhgaaW4
namespace Go.Proofs.Ythkkicanockhgaa
open Go.RowKit

theorem ret_int {k : IntKind} {a b : Int} (h : a = b) : Ending.returned (.int k a) = .returned (.int k b) := by rw [h]

set_option maxHeartbeats 400000 in
theorem degree_any (v : Value) (xs : List Int) (w : World) (h : IsRow w v xs) :
    Calls Try.prog 70 #[v] w fun e w' => e = .returned (.int .i64 ((xs.length : Int) - 1)) ∧ w = w' := by
  obtain ⟨oa, cap, rfl, hle, hcap, _⟩ := h
  unfold maxLen at hcap
  go_enter Try.func70, Try.ntmps70
  go_wp2
  go_ret
  exact ⟨rfl, rfl⟩

set_option maxHeartbeats 400000 in
theorem lead_any (v : Value) (xs : List Int) (w : World) (h : IsRow w v xs) :
    Calls Try.prog 95 #[v] w fun e w' => e = .returned (.int .i64 (cf xs (xs.length - 1))) ∧ w = w' := by
  obtain ⟨oa, cap, rfl, hle, hcap, hcell⟩ := h
  unfold maxLen at hcap
  by_cases hl : xs.length = 0
  · have e0 : cf xs (xs.length - 1) = 0 := cf_ge _ _ (by omega)
    rw [e0]
    rw [hl] at *
    go_enter Try.func95, Try.ntmps95
    go_wp2
    go_ret
    exact ⟨rfl, rfl⟩
  · obtain ⟨b, off, rfl, hc⟩ := hcell (by omega)
    have c0 := hc (xs.length - 1) (by omega)
    obtain ⟨m, hm⟩ : ∃ m, xs.length = m + 1 := ⟨xs.length - 1, by omega⟩
    generalize hx : cf xs (xs.length - 1) = x at *
    clear hc hcell hx
    generalize xs.length = L at *
    subst hm
    simp only [Nat.add_sub_cancel] at c0
    go_enter Try.func95, Try.ntmps95
    go_wp2
    go_ret
    exact ⟨rfl, rfl⟩

set_option maxHeartbeats 400000 in
theorem at_any (v : Value) (xs : List Int) (i : Nat) (w : World) (h : IsRow w v xs) (hi : i ≤ 1000000000000) :
    Calls Try.prog 85 #[v, .int .i64 i] w fun e w' => e = .returned (.int .i64 (cf xs i)) ∧ w = w' := by
  obtain ⟨oa, cap, rfl, hle, hcap, hcell⟩ := h
  unfold maxLen at hcap
  by_cases hl : i < xs.length
  · obtain ⟨b, off, rfl, hc⟩ := hcell (by omega)
    have c0 := hc i hl
    clear hc hcell
    go_enter Try.func85, Try.ntmps85
    go_wp2
    go_ret
    exact ⟨rfl, rfl⟩
  · have e0 : cf xs i = 0 := cf_ge _ _ (by omega)
    rw [e0]
    clear e0 hcell
    go_enter Try.func85, Try.ntmps85
    go_wp2
    go_ret
    exact ⟨rfl, rfl⟩

theorem tmod_reduce (p n : Int) (hp : 0 < p) : ((n.tmod p) + p) % p = n % p := by
  have h1 : n.tmod p = n - p * (n.tdiv p) := by have := Int.mul_tdiv_add_tmod n p; omega
  rw [h1, show n - p * n.tdiv p + p = n + p * (1 - n.tdiv p) by rw [Int.mul_sub, Int.mul_one]; omega, Int.add_mul_emod_self_left]
theorem tmod_range (p n : Int) (hp : 0 < p) : -p < n.tmod p ∧ n.tmod p < p := by
  constructor
  · have := Int.lt_tmod_of_pos n hp; omega
  · exact Int.tmod_lt_of_pos n hp

set_option maxHeartbeats 400000 in
theorem reduce_any (p n : Int) (w : World) (hp : Pr p) (h1 : -1000000000000000 ≤ n) (h2 : n ≤ 1000000000000000) :
    Calls Try.prog 84 #[.int .i64 p, .int .i64 n] w fun e w' => e = .returned (.int .i64 (n % p)) ∧ w = w' := by
  have hp1 := hp.pos.1
  have hp2 := hp.pos.2
  have ht := tmod_range p n (by omega)
  have ht1 := ht.1
  have ht2 := ht.2
  have hr := tmod_reduce p n (by omega)
  have hrH := Lib.hid hr
  have hpz : (p == 0) = false := by rw [beq_eq_false_iff_ne]; omega
  clear hr hp ht
  go_enter Try.func84, Try.ntmps84
  go_wp2
  go_ret
  exact ⟨ret_int hrH.out, rfl⟩

theorem mkp_len_eq {n k : Nat} {f : Nat → Int} (hk : k ≤ n) (hz : ∀ i, k ≤ i → i < n → f i = 0) (hl : k = 0 ∨ f (k - 1) ≠ 0) : (mkp n f).length = k := by
  have h1 : (mkp n f).length ≤ k := Tr_length_le (mkp_Tr n f) fun i hi => by
    rw [mkp_cf]; split
    · exact hz i hi ‹_›
    · rfl
  rcases hl with h | h
  · omega
  · by_cases hlt : (mkp n f).length ≤ k - 1
    · by_cases h0 : k = 0
      · omega
      · have := cf_ge (mkp n f) (k - 1) hlt
        rw [mkp_cf, if_pos (by omega)] at this
        exact absurd this h
    · omega

set_option maxHeartbeats 400000 in
theorem l01Deg_any (f : Nat → Int) (w : World) (hf : ∀ i, i < 64 → 0 ≤ f i ∧ f i ≤ 255) :
    Calls Try.prog 56 #[.agg (u8s 64 f)] w fun e w' => e = .returned (.int .i64 (((mkp 64 f).length : Int) - 1)) ∧ Below w.heap.size w w' := by
  have hfH := Lib.hid hf; clear hf
  go_enter Try.func56, Try.ntmps56
  go_wp2_with fail
  have hB : Blk (w.alloc (.cells (u8s 64 f) 23)) w.heap.size (u8s 64 f) 23 := Blk.new w _ _
  go_loop [3] (fun i => ∃ k : Nat, k ≤ 64 ∧ i = .int .i64 ((k : Int) - 1) ∧ ∀ j, k ≤ j → j < 64 → f j = 0) (fun i => (intOf i + 1).toNat)
  case atStart => exact ⟨64, by omega, rfl, fun j hj => by omega⟩
  case round =>
    obtain ⟨k, hk, hi, hall⟩ := hrel
    have hallH := Lib.hid hall; clear hall
    by_cases h0 : k = 0
    · subst h0
      have hfin := Lib.hid (mkp_len_eq (n := 64) (k := 0) (f := f) (by omega) hallH.out (Or.inl rfl))
      simp only [Int.natCast_zero, Int.zero_sub] at hi
      subst hi
      go_wp2_with fail
      go_ret
      exact ⟨by rw [hfin.out]; rfl, below_new _ _⟩
    · obtain ⟨m, rfl⟩ : ∃ m, k = m + 1 := ⟨k - 1, by omega⟩
      rw [show (((m + 1 : Nat) : Int) - 1) = (m : Int) by omega] at hi
      subst hi
      have c0 : (w.alloc (.cells (u8s 64 f) 23)).cell? ⟨w.heap.size, m, none⟩ = some (.int .u8 (f m)) := by rw [hB.cell, u8s_get _ (by omega)]
      have hr1 := (hfH.out m (by omega)).1
      have hr2 := (hfH.out m (by omega)).2
      by_cases hz : f m = 0
      · have hzb : (f m == 0) = true := by simpa using hz
        have hzH := Lib.hid hz; clear hz
        go_wp2_with fail
        go_round
        case rel => exact ⟨m, by omega, by go_num, fun j h1 h2 => by
          by_cases e1 : j = m
          · subst e1; exact hzH.out
          · exact hallH.out j (by omega) h2⟩
        case measure => simp [intOf] <;> omega
      · have hzb : (f m == 0) = false := by simpa using hz
        have hfin := Lib.hid (mkp_len_eq (n := 64) (k := m + 1) (f := f) (by omega) hallH.out (Or.inr (by simpa using hz)))
        clear hz
        go_wp2_with fail
        go_ret
        exact ⟨ret_int (by rw [hfin.out]; omega), below_new _ _⟩

theorem trim_len_take (xs : List Int) (k : Nat) (hk : k ≤ xs.length) (hz : ∀ i, k ≤ i → cf xs i = 0) (hl : k = 0 ∨ cf xs (k - 1) ≠ 0) : trim xs = xs.take k := trim_eq_take xs k hk hz hl

/-- A part of a row from its begin on. -/
theorem IsRow_cut {w : World} {oa : Option Addr} {xs : List Int} {k cap : Nat} (hk : k ≤ xs.length) (hcap : k ≤ cap) (hm : cap ≤ maxLen)
    (h : 0 < xs.length → ∃ b off, oa = some ⟨b, off, none⟩ ∧ ∀ i, i < xs.length → w.cell? ⟨b, off + i, none⟩ = some (.int .i64 (cf xs i))) :
    IsRow w (.slice oa k cap) (xs.take k) := by
  have hlen : (xs.take k).length = k := by simp; omega
  refine ⟨oa, cap, by rw [hlen], by omega, hm, fun h0 => ?_⟩
  obtain ⟨b, off, h1, h2⟩ := h (by omega)
  refine ⟨b, off, h1, fun i hi => ?_⟩
  rw [h2 i (by omega), cf_take, if_pos (by omega)]

set_option maxHeartbeats 400000 in
theorem trimmed_any (v : Value) (xs : List Int) (w : World) (h : IsRow w v xs) :
    Calls Try.prog 86 #[v] w fun e w' => ∃ v', e = .returned v' ∧ IsRow w v' (trim xs) ∧ w = w' := by
  obtain ⟨oa, cap, rfl, hle, hcap, hcell⟩ := h
  have hcellH := Lib.hid hcell
  have hcapH := Lib.hid hcap
  unfold maxLen at hcap
  have hcap2 : xs.length ≤ 9223372036854775807 := by omega
  clear hcell hcap
  generalize hL : xs.length = L at *
  have hLH := Lib.hid hL
  clear hL
  go_enter Try.func86, Try.ntmps86
  go_wp2_with fail
  go_loop [3] (fun i => ∃ k : Nat, k ≤ L ∧ i = .int .i64 (k : Int) ∧ ∀ j, k ≤ j → cf xs j = 0) (fun i => (intOf i).toNat)
  case atStart => exact ⟨L, Nat.le_refl _, rfl, fun j hj => cf_ge _ _ (by rw [hLH.out]; exact hj)⟩
  case round =>
    obtain ⟨k, hk, hi, hall⟩ := hrel
    have hallH := Lib.hid hall; clear hall
    by_cases h0 : k = 0
    · subst h0
      simp only [Int.natCast_zero] at hi
      subst hi
      go_wp2_with fail
      go_ret
      have hfin := trim_len_take xs 0 (by omega) hallH.out (Or.inl rfl)
      rw [hfin]
      exact ⟨_, rfl, IsRow_cut (by omega) (Nat.le_refl _) (by unfold maxLen; omega) (by rw [hLH.out]; exact hcellH.out), rfl⟩
    · obtain ⟨m, rfl⟩ : ∃ m, k = m + 1 := ⟨k - 1, by omega⟩
      subst hi
      obtain ⟨b, off, rfl, hc⟩ := hcellH.out (by omega)
      have c0 := hc m (by omega)
      clear hc
      by_cases hz : cf xs m = 0
      · have hzb : (cf xs m == 0) = true := by simpa using hz
        have hzH := Lib.hid hz; clear hz
        go_wp2_with fail
        go_round
        case rel => exact ⟨m, by omega, by go_num, fun j h1 => by
          by_cases e1 : j = m
          · subst e1; exact hzH.out
          · exact hallH.out j (by omega)⟩
        case measure => simp [intOf] <;> omega
      · have hzb : (cf xs m == 0) = false := by simpa using hz
        have hfin := Lib.hid (trim_len_take xs (m + 1) (by rw [hLH.out]; omega) hallH.out (Or.inr (by simpa using hz)))
        clear hz
        go_wp2_with fail
        go_ret
        rw [hfin.out]
        refine ⟨_, rfl, ?_, rfl⟩
        have h3 := IsRow_cut (w := w) (oa := some ⟨b, off, none⟩) (xs := xs) (k := m + 1) (cap := m + 1) (by rw [hLH.out]; omega) (Nat.le_refl _) (by unfold maxLen; omega) (by rw [hLH.out]; exact hcellH.out)
        simpa using h3
end Go.Proofs.Ythkkicanockhgaa

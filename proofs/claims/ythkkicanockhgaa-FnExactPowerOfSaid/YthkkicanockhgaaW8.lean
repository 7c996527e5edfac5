/- Walks: values of polynomials, derivatives. -/
import Derived.Test.YthkkicanockhgaaW7
namespace Go.Proofs.Ythkkicanockhgaa
open Go.RowKit

/-- The value by Horner's way, tl the program reckons it. -/
def ev (p x : Int) : List Int → Int
  | [] => 0
  | a :: tl => (ev p x tl * x + a) % p
theorem ev_bounds (p x : Int) (hp : 0 < p) (l : List Int) : 0 ≤ ev p x l ∧ ev p x l < p := by
  cases l with
  | nil => exact ⟨Int.le_refl _, hp⟩
  | cons a tl => exact ⟨Int.emod_nonneg _ (by omega), Int.emod_lt_of_pos _ hp⟩
theorem ev_drop (p x : Int) (xs : List Int) (k : Nat) (h : k < xs.length) : ev p x (xs.drop k) = (ev p x (xs.drop (k + 1)) * x + cf xs k) % p := by
  rw [List.drop_eq_getElem_cons h, cf_lt xs k h]; rfl
theorem ev_trim (p x : Int) (xs : List Int) : ev p x (trim xs) = ev p x xs := by
  induction xs with
  | nil => rfl
  | cons a tl ih =>
    unfold trim
    split
    · rename_i h
      obtain ⟨h1, h2⟩ := h
      subst h2
      rw [h1] at ih
      show (0 : Int) = (ev p x tl * x + 0) % p
      rw [← ih]; simp [ev]
    · show (ev p x (trim tl) * x + a) % p = _
      rw [ih]; rfl

theorem mul_small {y x p : Int} (hp : p ≤ 7) (hy0 : 0 ≤ y) (hy1 : y < p) (hx0 : 0 ≤ x) (hx1 : x < p) : 0 ≤ y * x ∧ y * x ≤ 49 := by
  refine ⟨Int.mul_nonneg hy0 hx0, ?_⟩
  have h1 : y * x ≤ 7 * x := Int.mul_le_mul_of_nonneg_right (by omega) hx0
  omega

set_option maxHeartbeats 400000 in
theorem value_any (v : Value) (xs : List Int) (p x : Int) (w : World) (hp : Pr p) (h : IsRow w v xs) (hx : ∀ i, 0 ≤ cf xs i ∧ cf xs i ≤ 255) (hx0 : 0 ≤ x) (hx1 : x < p) :
    Calls Try.prog 58 #[.int .i64 p, v, .int .i64 x] w fun e w' => e = .returned (.int .i64 (ev p x xs)) ∧ w = w' := by
  obtain ⟨oa, cap, rfl, hle, hcap, hcell⟩ := h
  have hp1 := hp.pos.1
  have hp2 := hp.pos.2
  clear hp
  have hcellH := Lib.hid hcell
  have hxH := Lib.hid hx
  unfold maxLen at hcap
  have hcap2 : xs.length ≤ 9223372036854775807 := by omega
  clear hcell hx
  generalize hL : xs.length = L at *
  have hLH := Lib.hid hL
  clear hL hcap
  have hpz : (p == 0) = false := by rw [beq_eq_false_iff_ne]; omega
  go_enter Try.func58, Try.ntmps58
  go_wp2_with fail
  go_loop [7, 8] (fun t i => ∃ (k : Nat) (y : Int), k ≤ L ∧ i = .int .i64 ((k : Int) - 1) ∧ t = .int .i64 y ∧ y = ev p x (xs.drop k)) (fun _ i => (intOf i + 1).toNat)
  case atStart => exact ⟨L, 0, Nat.le_refl _, rfl, rfl, by rw [List.drop_of_length_le (by rw [hLH.out]; exact Nat.le_refl _)]; rfl⟩
  case round =>
    obtain ⟨k, y, hk, hi, rfl, hy⟩ := hrel
    have hyb := ev_bounds p x (by omega) (xs.drop k)
    rw [← hy] at hyb
    have hyH := Lib.hid hy; clear hy
    by_cases h0 : k = 0
    · subst h0
      simp only [Int.natCast_zero, Int.zero_sub] at hi
      subst hi
      go_wp2_with fail
      go_ret
      exact ⟨ret_int hyH.out, rfl⟩
    · obtain ⟨m, rfl⟩ : ∃ m, k = m + 1 := ⟨k - 1, by omega⟩
      rw [show (((m + 1 : Nat) : Int) - 1) = (m : Int) by omega] at hi
      subst hi
      obtain ⟨b, off, rfl, hc⟩ := hcellH.out (by omega)
      have c0 := hc m (by omega)
      have hm := mul_small hp2 hyb.1 hyb.2 hx0 hx1
      have hm1 := hm.1
      have hm2 := hm.2
      have hz := hxH.out m
      have hz1 := hz.1
      have hz2 := hz.2
      clear hc hm hz
      go_wp2_with fail
      go_round
      case rel => exact ⟨m, _, by omega, by go_num, rfl, by rw [ev_drop p x xs m (by rw [hLH.out]; omega), ← hyH.out]⟩
      case measure => simp [intOf] <;> omega

set_option maxHeartbeats 400000 in
theorem l01Point_any (f : Nat → Int) (p x : Int) (w : World) (hp : Pr p) (hf : By f) (hx0 : 0 ≤ x) (hx1 : x < p) :
    Calls Try.prog 57 #[.int .i64 p, .agg (u8s 64 f), .int .i64 x] w fun e w' => e = .returned (.int .i64 (ev p x ((List.range 64).map f))) ∧ Below w.heap.size w w' := by
  have hp1 := hp.pos.1
  have hp2 := hp.pos.2
  clear hp
  have hfH := Lib.hid hf
  clear hf
  have hpz : (p == 0) = false := by rw [beq_eq_false_iff_ne]; omega
  have hB := Blk.new w (u8s 64 f) 23
  have hb0 := below_new w (.cells (u8s 64 f) 23)
  go_enter Try.func57, Try.ntmps57
  go_wp2_with fail
  go_loop [7, 8] (fun t i => ∃ (k : Nat) (y : Int), k ≤ 64 ∧ i = .int .i64 ((k : Int) - 1) ∧ t = .int .i64 y ∧ y = ev p x (((List.range 64).map f).drop k)) (fun _ i => (intOf i + 1).toNat)
  case atStart => exact ⟨64, 0, Nat.le_refl _, rfl, rfl, by rw [List.drop_of_length_le (by simp)]; rfl⟩
  case round =>
    obtain ⟨k, y, hk, hi, rfl, hy⟩ := hrel
    have hyb := ev_bounds p x (by omega) (((List.range 64).map f).drop k)
    rw [← hy] at hyb
    have hyH := Lib.hid hy; clear hy
    by_cases h0 : k = 0
    · subst h0
      simp only [Int.natCast_zero, Int.zero_sub] at hi
      subst hi
      go_wp2_with fail
      go_ret
      exact ⟨ret_int hyH.out, hb0⟩
    · obtain ⟨m, rfl⟩ : ∃ m, k = m + 1 := ⟨k - 1, by omega⟩
      rw [show (((m + 1 : Nat) : Int) - 1) = (m : Int) by omega] at hi
      subst hi
      have c0 : (w.alloc (.cells (u8s 64 f) 23)).cell? ⟨w.heap.size, m, none⟩ = some (.int .u8 (f m)) := by rw [hB.cell, u8s_get _ (by omega)]
      have hm := mul_small hp2 hyb.1 hyb.2 hx0 hx1
      have hm1 := hm.1
      have hm2 := hm.2
      have hz := hfH.out m
      have hz1 := hz.1
      have hz2 := hz.2
      clear hm hz
      go_wp2_with fail
      go_round
      case rel => exact ⟨m, _, by omega, by go_num, rfl, by rw [ev_drop p x _ m (by simp; omega), ← hyH.out, cf_map_range, if_pos (by omega)]⟩
      case measure => simp [intOf] <;> omega
end Go.Proofs.Ythkkicanockhgaa

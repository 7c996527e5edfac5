/- Walks: powers of p; T replaced by powers of T. -/
import Derived.Test.YtojkngdabejjdaaE4
import Derived.Test.YtojkngdabejjdaaPureB
set_option linter.unusedVariables false
set_option linter.unusedSimpArgs false
namespace Go.Proofs.Ytojkngdabejjdaa
open Go.RowKit

theorem ipow_pos {p : Int} (hp : 2 ≤ p) (n : Nat) : 1 ≤ p ^ n := by
  induction n with
  | zero => simp
  | succ n ih => rw [Int.pow_succ]; have := Int.mul_le_mul ih (show (1 : Int) ≤ p by omega) (by omega) (by omega); omega
theorem ipow_mono {p : Int} (hp : 2 ≤ p) {n m : Nat} (h : n ≤ m) : p ^ n ≤ p ^ m := by
  induction m with
  | zero => obtain rfl : n = 0 := by omega
            exact Int.le_refl _
  | succ m ih =>
    by_cases e : n = m + 1
    · rw [e]; exact Int.le_refl _
    · have h1 := ih (by omega)
      have h2 := ipow_pos hp m
      rw [Int.pow_succ]
      have h3 := Int.mul_le_mul_of_nonneg_left (show (1 : Int) ≤ p by omega) (show 0 ≤ p ^ m by omega)
      omega
theorem ipow_le7 {p : Int} (hp : Pr p) (n : Nat) : p ^ n ≤ 7 ^ n := by
  have hp2 := hp.pos
  induction n with
  | zero => simp
  | succ n ih =>
    rw [Int.pow_succ, Int.pow_succ]
    exact Int.mul_le_mul ih hp2.2 (by omega) (Int.le_trans (by have := ipow_pos hp2.1 n; omega) ih)

set_option maxHeartbeats 1000000 in
theorem l01Count_any (p : Int) (n : Nat) (w : World) (hp : 2 ≤ p) (hm : p ^ n ≤ 1000000000000) (hn : n ≤ 1000) :
    Calls Try.prog 51 #[.int .i64 p, .int .i64 n] w fun e w' => e = .returned (.int .i64 (p ^ n)) ∧ w = w' := by
  have hall := Lib.hid (fun k (hk : k < n) => (⟨ipow_pos hp k, Int.le_trans (ipow_mono hp (Nat.le_of_lt hk)) hm, by rw [← Int.pow_succ]; exact Int.le_trans (ipow_mono hp (show k + 1 ≤ n by omega)) hm⟩ : 1 ≤ p ^ k ∧ p ^ k ≤ 1000000000000 ∧ p ^ k * p ≤ 1000000000000))
  have hmH := Lib.hid hm
  clear hm
  go_enter Try.func51, Try.ntmps51
  go_wp2_with fail
  go_loop [1, 5] (fun i o => ∃ (k : Nat) (y : Int), k ≤ n ∧ i = .int .i64 ((n : Int) - k) ∧ o = .int .i64 y ∧ y = p ^ k) (fun i _ => (intOf i).toNat)
  case atStart => exact ⟨0, 1, by omega, by simp, rfl, by simp⟩
  case round =>
    obtain ⟨k, y, hk, hi, rfl, hy⟩ := hrel
    have hyH := Lib.hid hy
    by_cases hlt : k < n
    · have h1 := hall.out k hlt
      rw [← hy] at h1
      have h2 := h1.1
      have h3 := h1.2.1
      have h4 := h1.2.2
      have h6 : 0 ≤ y * p := Int.mul_nonneg (by omega) (by omega)
      obtain ⟨m, hm⟩ : ∃ m : Nat, (n : Int) - k = m := ⟨n - k, by omega⟩
      rw [hm] at hi
      have hm0 : 0 < (m : Int) := by omega
      have hm00 : (m : Int) ≤ 1000 := by omega
      have hmH2 := Lib.hid hm
      subst hi
      clear h1 hy hm
      go_wp2_with fail
      go_round
      case rel => exact ⟨k + 1, _, by omega, by have := hmH2.out; first | (congr 1; omega) | (go_num; omega), rfl, by rw [Int.pow_succ, ← hyH.out]⟩
      case measure => simp [intOf] <;> omega
    · have hkk : k = n := by omega
      have hz : (n : Int) - k = 0 := by omega
      rw [hz] at hi
      subst hi
      have hmx : ¬ 1000000000001 < y := by have := hmH.out; rw [hy, hkk]; omega
      have hmy : y < 1000000000001 := by have := hmH.out; rw [hy, hkk]; omega
      have hmz : min y 1000000000001 = y := by omega
      clear hy
      go_wp2_with fail
      go_ret
      refine ⟨ret_int ?_, rfl⟩
      first | (rw [hyH.out, hkk]; done) | (rw [← hkk, ← hyH.out]; omega)

theorem IsRow_i64s {w : World} {g n : Nat} {F : Nat → Int} {xs : List Int} (hB : Blk w g (i64s n F) 2) (hl : xs.length = n) (hF : ∀ i, i < n → F i = cf xs i) (hn : n ≤ maxLen) : IsRow w (.slice (some ⟨g, 0, none⟩) n n) xs := by
  subst hl
  refine ⟨some ⟨g, 0, none⟩, xs.length, rfl, Nat.le_refl _, hn, fun _ => ⟨g, 0, rfl, fun i hi => ?_⟩⟩
  rw [hB.cell, Nat.zero_add, i64s_get _ hi, hF i hi]
/-- Behind k coefficients of a spread. -/
def sprF (xs : List Int) (q k : Nat) : Nat → Int := fun n => if n % q = 0 ∧ n / q < k then cf xs (n / q) else 0
theorem sprF_zero (xs : List Int) (q n : Nat) : sprF xs q 0 n = 0 := by unfold sprF; rw [if_neg]; intro h; exact absurd h.2 (Nat.not_lt_zero _)
theorem sprF_step (xs : List Int) {q : Nat} (hq : 0 < q) (k n : Nat) : sprF xs q (k + 1) n = if n = k * q then cf xs k else sprF xs q k n := by
  unfold sprF
  by_cases e : n = k * q
  · rw [if_pos e, e, if_pos ⟨Nat.mul_mod_left k q, by rw [Nat.mul_div_cancel k hq]; omega⟩, Nat.mul_div_cancel k hq]
  · rw [if_neg e]
    by_cases h : n % q = 0
    · have h1 : n / q ≠ k := fun h2 => e (by have := Nat.div_add_mod n q; rw [h2, h, Nat.mul_comm] at this; omega)
      by_cases h2 : n / q < k
      · rw [if_pos ⟨h, by omega⟩, if_pos ⟨h, h2⟩]
      · rw [if_neg (by omega), if_neg (by omega)]
    · rw [if_neg (by omega), if_neg (by omega)]
theorem sprF_at (xs : List Int) {q : Nat} (hq : 0 < q) (k : Nat) : sprF xs q k (k * q) = 0 := by
  unfold sprF; rw [if_neg]; intro h; rw [Nat.mul_div_cancel k hq] at h; omega
theorem sprF_all (xs : List Int) {q k : Nat} (hq : 0 < q) (hk : xs.length ≤ k) (n : Nat) : sprF xs q k n = cf (sprd xs q) n := by
  rw [sprd_cf xs hq]; unfold sprF
  by_cases h : n % q = 0
  · rw [if_pos h]
    by_cases h2 : n / q < k
    · rw [if_pos ⟨h, h2⟩]
    · rw [if_neg (by omega), cf_ge xs _ (by omega)]
  · rw [if_neg h, if_neg (by omega)]
theorem sprF_skip (xs : List Int) {q k : Nat} (hq : 0 < q) (hz : cf xs k = 0) (n : Nat) : sprF xs q (k + 1) n = sprF xs q k n := by
  rw [sprF_step xs hq]; split
  · rename_i h; rw [h, hz, sprF_at xs hq]
  · rfl
theorem npow_cast (p : Int) (P i : Nat) (hP : p = P) : ((P ^ i : Nat) : Int) = p ^ i := by rw [hP]; exact Int.natCast_pow P i
theorem q_bounds {p : Int} {P i q : Nat} (hp : Pr p) (hP : p = P) (hq : q = P ^ i) (hi : i ≤ 6) : 1 ≤ q ∧ q ≤ 117649 ∧ (q : Int) = p ^ i := by
  have hp2 := hp.pos
  have h1 : (q : Int) = p ^ i := by rw [hq]; exact npow_cast p P i hP
  have h2 := ipow_pos hp2.1 i
  have h3 := ipow_le7 hp i
  have h4 : (7 : Int) ^ i ≤ 7 ^ 6 := ipow_mono (by omega) hi
  have h5 : (7 : Int) ^ 6 = 117649 := by decide
  exact ⟨by omega, by omega, h1⟩

end Go.Proofs.Ytojkngdabejjdaa

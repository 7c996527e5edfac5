/- Numbers and their digits; the next number. No program in sight. -/
import Derived.Test.YtojkngdabejjdaaPure
set_option linter.unusedVariables false
set_option linter.unusedSimpArgs false
namespace Go.Proofs.Ytojkngdabejjdaa
/-- Digit e of K in base p. -/
def dig (p K e : Nat) : Nat := K / p ^ e % p
theorem dig_low {p : Nat} (hp : 2 ≤ p) {K : Nat} : ∀ j, (∀ e, e < j → dig p K e = p - 1) → K % p ^ j = p ^ j - 1
  | 0, _ => by rw [Nat.pow_zero, Nat.mod_one]
  | j + 1, h => by
    have h1 := dig_low hp j fun e he => h e (by omega)
    have h2 := h j (by omega)
    unfold dig at h2
    have hpos : 0 < p ^ j := Nat.pow_pos (by omega)
    rw [Nat.pow_succ, Nat.mod_mul, h1, h2, Nat.mul_sub, Nat.mul_one]
    have : p ^ j ≤ p ^ j * p := Nat.le_mul_of_pos_right _ (by omega)
    omega
theorem next_form {p : Nat} (hp : 2 ≤ p) {K j : Nat} (h : ∀ e, e < j → dig p K e = p - 1) : K + 1 = p ^ j * (K / p ^ j + 1) := by
  have h1 := dig_low hp j h
  have h2 := Nat.div_add_mod K (p ^ j)
  have hpos : 0 < p ^ j := Nat.pow_pos (by omega)
  rw [Nat.mul_add, Nat.mul_one]
  omega
theorem dig_next_at {p : Nat} (hp : 2 ≤ p) {K j : Nat} (h : ∀ e, e < j → dig p K e = p - 1) (hj : dig p K j < p - 1) : dig p (K + 1) j = dig p K j + 1 := by
  have hpos : 0 < p ^ j := Nat.pow_pos (by omega)
  unfold dig at hj ⊢
  rw [next_form hp h, Nat.mul_div_cancel_left _ hpos, Nat.add_mod, Nat.mod_eq_of_lt (show 1 < p by omega), Nat.mod_eq_of_lt (by omega)]
theorem dig_next_low {p : Nat} (hp : 2 ≤ p) {K j e : Nat} (h : ∀ e, e < j → dig p K e = p - 1) (he : e < j) : dig p (K + 1) e = 0 := by
  have hpos : 0 < p ^ e := Nat.pow_pos (by omega)
  unfold dig
  rw [next_form hp h, show j = e + ((j - e - 1) + 1) by omega, Nat.pow_add, Nat.mul_assoc, Nat.mul_div_cancel_left _ hpos, Nat.pow_succ, Nat.mul_comm (p ^ (j - e - 1)) p, Nat.mul_assoc, Nat.mul_mod_right]
theorem dig_next_high {p : Nat} (hp : 2 ≤ p) {K j e : Nat} (h : ∀ e, e < j → dig p K e = p - 1) (hj : dig p K j < p - 1) (he : j < e) : dig p (K + 1) e = dig p K e := by
  have hpos : 0 < p ^ j := Nat.pow_pos (by omega)
  unfold dig at hj ⊢
  have e1 : e = j + (1 + (e - j - 1)) := by omega
  rw [e1, Nat.pow_add, ← Nat.div_div_eq_div_mul, ← Nat.div_div_eq_div_mul, next_form hp h, Nat.mul_div_cancel_left _ hpos, Nat.pow_add, Nat.pow_one, ← Nat.div_div_eq_div_mul, ← Nat.div_div_eq_div_mul]
  congr 2
  obtain ⟨q, hq⟩ : ∃ q, K / p ^ j = q := ⟨_, rfl⟩
  rw [hq] at hj ⊢
  have h1 := Nat.div_add_mod q p
  have h2 : q + 1 = p * (q / p) + (q % p + 1) := by omega
  have h3 : (q % p + 1) / p = 0 := Nat.div_eq_of_lt (by omega)
  rw [h2, Nat.mul_add_div (show p > 0 by omega), h3, Nat.add_zero]
/-- Every row of digits is a number's. -/
theorem dig_all {p : Nat} (hp : 2 ≤ p) : ∀ (n : Nat) (f : Nat → Nat), (∀ e, e < n → f e < p) → ∃ K, K < p ^ n ∧ ∀ e, e < n → dig p K e = f e
  | 0, _, _ => ⟨0, by simp, fun e h => absurd h (by omega)⟩
  | n + 1, f, h => by
    obtain ⟨K, h1, h2⟩ := dig_all hp n (fun e => f (e + 1)) fun e he => h (e + 1) (by omega)
    have h0 := h 0 (by omega)
    refine ⟨K * p + f 0, ?_, fun e he => ?_⟩
    · rw [Nat.pow_succ]
      have : (K + 1) * p ≤ p ^ n * p := Nat.mul_le_mul_right p h1
      rw [Nat.add_mul, Nat.one_mul] at this
      omega
    · unfold dig
      rcases e with _ | e
      · rw [Nat.pow_zero, Nat.div_one, Nat.mul_comm, Nat.mul_add_mod, Nat.mod_eq_of_lt h0]
      · have h3 := h2 e (by omega)
        unfold dig at h3
        rw [Nat.pow_succ, Nat.mul_comm (p ^ e) p, ← Nat.div_div_eq_div_mul, Nat.mul_comm K p, Nat.mul_add_div (by omega), Nat.div_eq_of_lt h0, Nat.add_zero]
        exact h3
theorem dig_inj {P : Nat} (hP : 2 ≤ P) : ∀ (n : Nat) {K L : Nat}, K < P ^ n → L < P ^ n → (∀ e, e < n → dig P K e = dig P L e) → K = L
  | 0, K, L, h1, h2, _ => by simp at h1 h2; omega
  | n + 1, K, L, h1, h2, h => by
    have hs : ∀ (A e : Nat), dig P (A / P) e = dig P A (e + 1) := fun A e => by
      unfold dig; rw [Nat.div_div_eq_div_mul, Nat.pow_succ, Nat.mul_comm P]
    rw [Nat.pow_succ] at h1 h2
    have h3 := dig_inj hP n (K := K / P) (L := L / P) ((Nat.div_lt_iff_lt_mul (by omega)).2 h1) ((Nat.div_lt_iff_lt_mul (by omega)).2 h2) fun e he => by rw [hs, hs]; exact h (e + 1) (by omega)
    have h4 := h 0 (by omega)
    unfold dig at h4
    rw [Nat.pow_zero, Nat.div_one, Nat.div_one] at h4
    rw [← Nat.div_add_mod K P, ← Nat.div_add_mod L P, h3, h4]
end Go.Proofs.Ytojkngdabejjdaa

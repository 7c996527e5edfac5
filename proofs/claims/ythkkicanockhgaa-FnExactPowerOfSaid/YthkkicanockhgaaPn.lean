/- Powers of numbers and of polynomials without a modulus. No program in sight. -/
import Derived.Test.YthkkicanockhgaaPw
set_option linter.unusedVariables false
set_option linter.unusedSimpArgs false
namespace Go.Proofs.Ythkkicanockhgaa

def ipw (v : Int) : Nat → Int
  | 0 => 1
  | n + 1 => ipw v n * v
theorem ipw_add (v : Int) (n : Nat) : ∀ m, ipw v (n + m) = ipw v n * ipw v m
  | 0 => by show ipw v n = ipw v n * 1; omega
  | m + 1 => by show ipw v (n + m) * v = ipw v n * (ipw v m * v); rw [ipw_add v n m, Int.mul_assoc]
theorem ipw_sq (v : Int) : ∀ n, ipw (v * v) n = ipw v (2 * n)
  | 0 => rfl
  | n + 1 => by
    show ipw (v * v) n * (v * v) = ipw v (2 * n) * v * v
    rw [ipw_sq v n, Int.mul_assoc]
theorem ipw_emod (p v : Int) : ∀ n, ipw (v % p) n % p = ipw v n % p
  | 0 => rfl
  | n + 1 => by
    show ipw (v % p) n * (v % p) % p = ipw v n * v % p
    rw [Int.mul_emod, ipw_emod p v n, Int.emod_emod_of_dvd _ (Int.dvd_refl p), ← Int.mul_emod]
theorem powm_ipw {p : Int} (hp : 2 ≤ p) (v : Int) : ∀ n, powm p v n = ipw v n % p
  | 0 => by show (1 : Int) = 1 % p; rw [Int.emod_eq_of_lt (by omega) (by omega)]
  | n + 1 => by
    show powm p v n * v % p = ipw v n * v % p
    rw [powm_ipw hp v n, Int.mul_emod, Int.emod_emod_of_dvd _ (Int.dvd_refl p), ← Int.mul_emod]

theorem rst_short {p : Int} (hp : Pr p) {a m : List Int} (ha : Po p a) (hm : Po p m) (hl : a.length < m.length) : rst p a m = a :=
  rst_of_cg hp ha hm (fun e => by rw [e] at hl; simp at hl) ha hl (Cg.refl _)
theorem mulp_consts {p u v : Int} {a b : List Int} (ha : ∀ i, cf a i = if i = 0 then u else 0) (hb : ∀ i, cf b i = if i = 0 then v else 0) (i : Nat) : cf (mulp p a b) i = if i = 0 then u * v % p else 0 := by
  rw [mulp_one_cf p u ha, hb i]
  split
  · rfl
  · simp
theorem const_len {a : List Int} {u : Int} (ht : Tr a) (ha : ∀ i, cf a i = if i = 0 then u else 0) : a.length ≤ 1 :=
  Tr_length_le ht fun i hi => by rw [ha i, if_neg (by omega)]
theorem mulmod_consts {p u v : Int} (hp : Pr p) {a b : List Int} (ha : ∀ i, cf a i = if i = 0 then u else 0) (hb : ∀ i, cf b i = if i = 0 then v else 0) (i : Nat) : cf (mulmod p a b [0, 1]) i = if i = 0 then u * v % p else 0 := by
  have hp2 := hp.pos
  have hm := mulp_Po (p := p) (by omega) a b
  unfold mulmod
  rw [rst_short hp hm (letter_Po hp2.1) (by have := const_len hm.tr (mulp_consts (p := p) ha hb); simp; omega)]
  exact mulp_consts ha hb i
theorem pwl_consts {p : Int} (hp : Pr p) (k : Nat) : ∀ (u v : Int) (out base : List Int), (∀ i, cf out i = if i = 0 then u % p else 0) → (∀ i, cf base i = if i = 0 then v else 0) → ∀ i, cf (pwl p [0, 1] k out base) i = if i = 0 then u * ipw v k % p else 0 := by
  induction k using Nat.strongRecOn with
  | ind k ih =>
    intro u v out base ho hb i
    by_cases e : k = 0
    · subst e; rw [pwl_zero, ho i]
      show _ = if i = 0 then u * 1 % p else 0
      rw [Int.mul_one]
    · rw [pwl_step _ _ _ _ e]
      have hbb := mulmod_consts hp hb hb
      have key : ipw (v * v % p) (k / 2) % p = ipw v (2 * (k / 2)) % p := by rw [ipw_emod, ipw_sq]
      by_cases h2 : k % 2 = 1
      · rw [if_pos h2]
        have ho2 : ∀ i, cf (mulmod p out base [0, 1]) i = if i = 0 then (u * v) % p else 0 := fun i => by
          rw [mulmod_consts hp ho hb i]; split
          · rw [Int.mul_emod, Int.emod_emod_of_dvd _ (Int.dvd_refl p), ← Int.mul_emod]
          · rfl
        rw [ih (k / 2) (by omega) (u * v) _ _ _ ho2 hbb i]
        split
        · rw [Int.mul_emod, key, ← Int.mul_emod, Int.mul_assoc]
          have : k = 2 * (k / 2) + 1 := by omega
          have h3 : ipw v k = ipw v (2 * (k / 2)) * v := by rw [this, show (2 * (k / 2) + 1) / 2 = k / 2 by omega]; rfl
          rw [h3, Int.mul_comm v]
        · rfl
      · rw [if_neg h2, ih (k / 2) (by omega) u _ _ _ ho hbb i]
        split
        · rw [Int.mul_emod, key, ← Int.mul_emod, show 2 * (k / 2) = k by omega]
        · rfl
/-- The power of a number, modulo T. -/
theorem powp_const {p : Int} (hp : Pr p) {r : List Int} (hr : Po p r) (hl : r.length ≤ 1) (k : Nat) (i : Nat) : cf (powp p r k [0, 1]) i = if i = 0 then powm p (cf r 0) k else 0 := by
  have hp2 := hp.pos
  unfold powp
  rw [rst_short hp (one_Po hp2.1) (letter_Po hp2.1) (by simp), rst_short hp hr (letter_Po hp2.1) (by simp; omega),
    pwl_consts hp k 1 (cf r 0) [1] r (fun i => by rw [one_cf, Int.emod_eq_of_lt (by omega) (by omega)]) (short_cf hl) i, Int.one_mul, powm_ipw hp2.1]
theorem powm_add {p : Int} (hp : 2 ≤ p) (x : Int) (n m : Nat) : powm p x (n + m) = powm p x n * powm p x m % p := by
  rw [powm_ipw hp, powm_ipw hp, powm_ipw hp, ipw_add, ← Int.mul_emod]
theorem fermat {p x : Int} (hp : Pr p) (h0 : 0 < x) (h1 : x < p) : powm p x (p - 1).toNat = 1 := by
  obtain ⟨X, rfl⟩ := Int.eq_ofNat_of_zero_le (show 0 ≤ x by omega)
  rcases hp with rfl | rfl | rfl | rfl
  · have key : ∀ X : Fin 2, 0 < X.val → powm 2 X.val 1 = 1 := by decide
    exact key ⟨X, by omega⟩ (by simp; omega)
  · have key : ∀ X : Fin 3, 0 < X.val → powm 3 X.val 2 = 1 := by decide
    exact key ⟨X, by omega⟩ (by simp; omega)
  · have key : ∀ X : Fin 5, 0 < X.val → powm 5 X.val 4 = 1 := by decide
    exact key ⟨X, by omega⟩ (by simp; omega)
  · have key : ∀ X : Fin 7, 0 < X.val → powm 7 X.val 6 = 1 := by decide
    exact key ⟨X, by omega⟩ (by simp; omega)
theorem powm_lt {p : Int} (hp : 2 ≤ p) (x : Int) : ∀ n, 0 ≤ powm p x n ∧ powm p x n < p
  | 0 => by show (0 : Int) ≤ 1 ∧ (1 : Int) < p; omega
  | n + 1 => ⟨Int.emod_nonneg _ (by omega), Int.emod_lt_of_pos _ (by omega)⟩
theorem powm_period {p x : Int} (hp : Pr p) (h0 : 0 < x) (h1 : x < p) (r : Nat) : ∀ q, powm p x (r + q * (p - 1).toNat) = powm p x r
  | 0 => by rw [Nat.zero_mul, Nat.add_zero]
  | q + 1 => by
    have hp2 := hp.pos
    rw [Nat.add_mul, Nat.one_mul, ← Nat.add_assoc, powm_add hp2.1, powm_period hp h0 h1 r q, fermat hp h0 h1, Int.mul_one]
    have := powm_lt hp2.1 x r
    exact Int.emod_eq_of_lt this.1 this.2
theorem powm_mod {p x : Int} (hp : Pr p) (h0 : 0 < x) (h1 : x < p) (k : Nat) : powm p x k = powm p x (k % (p - 1).toNat) := by
  have := powm_period hp h0 h1 (k % (p - 1).toNat) (k / (p - 1).toNat)
  rw [Nat.mod_add_div'] at this
  exact this
theorem powm_zero {p : Int} : ∀ {k : Nat}, k ≠ 0 → powm p 0 k = 0
  | 0, h => absurd rfl h
  | k + 1, _ => by show powm p 0 k * 0 % p = 0; simp

/-- The product of k factors. -/
def rpw (p : Int) (r : List Int) : Nat → List Int
  | 0 => [1]
  | n + 1 => mulp p (rpw p r n) r
theorem rpw_Po {p : Int} (hp : 2 ≤ p) (r : List Int) : ∀ n, Po p (rpw p r n)
  | 0 => one_Po hp
  | n + 1 => mulp_Po (by omega) _ _
theorem rpw_length {p : Int} (hp : Pr p) {r : List Int} (hr : Po p r) (hl : 1 ≤ r.length) : ∀ n, (rpw p r n).length = (r.length - 1) * n + 1
  | 0 => by show 1 = _; simp
  | n + 1 => by
    have hp2 := hp.pos
    have ih := rpw_length hp hr hl n
    have hm := mulp_length hp (rpw_Po hp2.1 r n) hr (fun e => by rw [e] at ih; simp at ih) (fun e => by rw [e] at hl; simp at hl)
    show (mulp p (rpw p r n) r).length = _
    rw [Nat.mul_add, Nat.mul_one]
    omega
end Go.Proofs.Ythkkicanockhgaa

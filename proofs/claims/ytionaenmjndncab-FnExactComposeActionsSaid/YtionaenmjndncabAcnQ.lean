/- The binomials of a polynomial: what the walks ask. No program in sight. -/
import Derived.Test.YtionaenmjndncabAcnP
import Derived.Test.YtionaenmjndncabPureB
set_option linter.unusedVariables false
set_option linter.unusedSimpArgs false
namespace Go.Proofs.Ytionaenmjndncab
theorem sprd_tpow {q : Nat} (hq : 0 < q) : sprd [0, 1] q = tpow q := by
  have h1 : (sprd [0, 1] q).length = q + 1 := by rw [sprd_length (by simp)]; simp
  refine list_ext_cf (by rw [h1, tpow_len]) fun i => ?_
  rw [sprd_cf _ hq, tpow_cf]
  by_cases h : i = q
  · subst h
    rw [Nat.mod_self, if_pos rfl, Nat.div_self hq, if_pos rfl]; rfl
  · rw [if_neg h]
    split
    · rename_i h2
      by_cases h3 : i / q = 0
      · rw [h3]; rfl
      · have h4 : i / q ≠ 1 := fun e => h (by have := Nat.div_add_mod i q; rw [e, h2] at this; omega)
        exact cf_ge [0, 1] _ (show 2 ≤ i / q from Nat.lt_of_le_of_ne (Nat.pos_of_ne_zero h3) (Ne.symm h4))
    · rfl
theorem mulp_nilR {p : Int} (hp : 0 < p) (xs : List Int) : mulp p xs [] = [] := by
  have h1 := mulp_Po hp xs []
  refine h1.eq_of_eqp (Po_nil hp) ?_
  refine (mulp_eqp p xs []).trans (Eqp.of_eq ?_)
  rw [cf_nil_zero, pmul_pzero]
theorem acH_nil {p : Int} (hp : 2 ≤ p) (P : Nat) : ∀ (ys : List Int) (i : Nat), ys.length ≤ i → acH p P ys i = []
  | [], i, _ => by cases i <;> rfl
  | c :: cs, 0, h => by simp at h
  | c :: cs, i + 1, h => by
    have h1 : cs.length ≤ i := by simpa using h
    show addp p (mulp p _ (acH p P cs (i + 1))) (acH p P cs i) 1 = []
    rw [acH_nil hp P cs i h1, acH_nil hp P cs (i + 1) (by omega), mulp_nilR (show 0 < p by omega)]
    exact List.length_eq_zero_iff.1 (by have := addp_length p ([] : List Int) [] 1; simpa using this)
theorem pow7 {p : Int} (hp : Pr p) {P : Nat} (hP : p = P) : 2 ≤ P ∧ P ≤ 7 := by have := hp.pos; omega
theorem acn_small {P : Nat} (h : P ≤ 7) (n i : Nat) (hn : n ≤ 6) : (n - i) * P ^ i ≤ 17000 := by
  have h1 : P ^ i ≤ 7 ^ i := Nat.pow_le_pow_left h i
  have h2 : (n - i) * P ^ i ≤ (6 - i) * 7 ^ i := Nat.le_trans (Nat.mul_le_mul_left _ h1) (Nat.mul_le_mul_right _ (by omega))
  match i, h2 with
  | 0, h2 => omega
  | 1, h2 => omega
  | 2, h2 => omega
  | 3, h2 => omega
  | 4, h2 => omega
  | 5, h2 => omega
  | j + 6, h2 => rw [show 6 - (j + 6) = 0 by omega, Nat.zero_mul] at h2; omega
theorem acH_small {p : Int} (hp : Pr p) {P : Nat} (hP : p = P) {ys : List Int} (hy : Po p ys) (hl : ys.length ≤ 7) (i : Nat) : (acH p P ys i).length ≤ 17001 := by
  obtain ⟨h1, h2⟩ := pow7 hp hP
  rw [← acS_eq hp.pos.1]
  have h3 := (acS_len hp h1 hy i ys.length (Nat.le_refl _)).1
  have h4 := acn_small h2 (ys.length - 1) i (by omega)
  omega
theorem acH_exact {p : Int} (hp : Pr p) {P : Nat} (hP : p = P) {ys : List Int} (hy : Po p ys) (i : Nat) (hi : i < ys.length) : (acH p P ys i).length = (ys.length - 1 - i) * P ^ i + 1 := by
  obtain ⟨h1, h2⟩ := pow7 hp hP
  rw [← acS_eq hp.pos.1]
  exact acS_exact hp h1 hy (fun e => by rw [e] at hi; simp at hi) i hi
theorem acH_step {p : Int} (P : Nat) (xs : List Int) (m : Nat) (h : m < xs.length) (i : Nat) : acH p P (xs.drop m) (i + 1) = addp p (mulp p (tpow (P ^ (i + 1))) (acH p P (xs.drop (m + 1)) (i + 1))) (acH p P (xs.drop (m + 1)) i) 1 := by
  rw [drop_cons xs m h]; rfl
theorem acH_zero {p : Int} (P : Nat) (xs : List Int) (m : Nat) (h : m < xs.length) : acH p P (xs.drop m) 0 = addp p (mulp p (tpow (P ^ 0)) (acH p P (xs.drop (m + 1)) 0)) [cf xs m] 1 := by
  rw [drop_cons xs m h]; rfl
theorem P_small {P : Nat} (h : P ≤ 7) {i : Nat} (hi : i ≤ 5) : P ^ i ≤ 16807 :=
  Nat.le_trans (Nat.pow_le_pow_left h i) (Nat.le_trans (Nat.pow_le_pow_right (by omega) hi) (by decide))
/-- All rows fit. -/
def AcFits (P : Nat) (n : Nat) : Prop := ∀ i, i < n → (n - 1 - i) * P ^ i ≤ 63
end Go.Proofs.Ytionaenmjndncab

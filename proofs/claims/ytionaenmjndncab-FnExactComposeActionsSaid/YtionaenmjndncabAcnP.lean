/- The binomials of a polynomial (the action of T, T T, ..): how long they are; the two ways of reckoning. No program in sight. -/
import Derived.Test.YtionaenmjndncabPure
set_option linter.unusedVariables false
set_option linter.unusedSimpArgs false
namespace Go.Proofs.Ytionaenmjndncab

/-- T to the power q, as a list. -/
def tpow (q : Nat) : List Int := (List.replicate q 0) ++ [1]
theorem tpow_len (q : Nat) : (tpow q).length = q + 1 := by simp [tpow]
theorem tpow_cf (q i : Nat) : cf (tpow q) i = if i = q then 1 else 0 := by
  unfold tpow
  by_cases h : i < q
  · rw [cf_append_left _ _ _ (by simpa using h), if_neg (by omega), cf_lt _ _ (by simpa using h)]; simp
  · by_cases h2 : i = q
    · subst h2
      have := cf_append_at (List.replicate i (0 : Int)) 1
      rw [List.length_replicate] at this
      rw [this, if_pos rfl]
    · rw [if_neg h2, cf_ge _ _ (by simp; omega)]
theorem tpow_Po {p : Int} (hp : 2 ≤ p) (q : Nat) : Po p (tpow q) := by
  refine ⟨Or.inr ?_, fun i => ?_⟩
  · rw [tpow_len, tpow_cf, if_pos (by omega)]; decide
  · rw [tpow_cf]; split <;> omega
theorem tpow_mono (q : Nat) : cf (tpow q) = mono 1 q := by
  funext i; rw [tpow_cf]; rfl
/-- The binomial of T^k at i. -/
def bin (p : Int) (P : Nat) : Nat → Nat → List Int
  | 0, 0 => [1]
  | 0, _ + 1 => []
  | k + 1, 0 => mulp p (tpow (P ^ 0)) (bin p P k 0)
  | k + 1, i + 1 => addp p (mulp p (tpow (P ^ (i + 1))) (bin p P k (i + 1))) (bin p P k i) 1
theorem bin_Po {p : Int} (hp : 2 ≤ p) (P : Nat) : ∀ k i, Po p (bin p P k i)
  | 0, 0 => one_Po hp
  | 0, _ + 1 => Po_nil (by omega)
  | k + 1, 0 => mulp_Po (by omega) _ _
  | k + 1, i + 1 => addp_Po (by omega) _ _ _
/-- How long they are, and that their last one is 1. -/
theorem bin_len {p : Int} (hp : Pr p) {P : Nat} (hP : 2 ≤ P) : ∀ k i, (k < i → bin p P k i = []) ∧ (i ≤ k → (bin p P k i).length = (k - i) * P ^ i + 1 ∧ cf (bin p P k i) ((k - i) * P ^ i) = 1)
  | 0, 0 => ⟨fun h => by omega, fun _ => ⟨rfl, rfl⟩⟩
  | 0, i + 1 => ⟨fun _ => rfl, fun h => by omega⟩
  | k + 1, i => by
    have hp2 := hp.pos
    have ht := tpow_Po (p := p) hp2.1 (P ^ i)
    have htn : tpow (P ^ i) ≠ [] := fun e => by have := tpow_len (P ^ i); rw [e] at this; simp at this
    obtain ⟨a1, a2⟩ := bin_len hp hP k i
    -- the product
    have hm : i ≤ k → (mulp p (tpow (P ^ i)) (bin p P k i)).length = (k + 1 - i) * P ^ i + 1 ∧ cf (mulp p (tpow (P ^ i)) (bin p P k i)) ((k + 1 - i) * P ^ i) = 1 := fun h => by
      obtain ⟨b1, b2⟩ := a2 h
      have hn : bin p P k i ≠ [] := fun e => by rw [e] at b1; simp at b1
      have hl := mulp_length hp ht (bin_Po hp2.1 P k i) htn hn
      rw [tpow_len, b1] at hl
      have e : (k + 1 - i) * P ^ i = P ^ i + (k - i) * P ^ i := by rw [show k + 1 - i = k - i + 1 by omega, Nat.add_mul, Nat.one_mul, Nat.add_comm]
      refine ⟨by omega, ?_⟩
      rw [e, mulp_cf, tpow_mono, mono_mul, if_pos (by omega), Nat.add_sub_cancel_left, b2, Int.mul_one]
      exact Int.emod_eq_of_lt (by omega) (by omega)
    cases i with
    | zero =>
      refine ⟨fun h => by omega, fun _ => ?_⟩
      exact hm (by omega)
    | succ i =>
      obtain ⟨c1, c2⟩ := bin_len hp hP k i
      refine ⟨fun h => ?_, fun h => ?_⟩
      · show addp p (mulp p _ (bin p P k (i + 1))) (bin p P k i) 1 = []
        rw [a1 (by omega), c1 (by omega), mulp_nil_right]
        exact List.length_eq_zero_iff.1 (by have := addp_length p ([] : List Int) [] 1; simpa using this)
      · have hi : i ≤ k := by omega
        obtain ⟨d1, d2⟩ := c2 hi
        by_cases hk : i + 1 ≤ k
        · obtain ⟨m1, m2⟩ := hm hk
          have hlt : (k - i) * P ^ i < (k + 1 - (i + 1)) * P ^ (i + 1) := by
            rw [show k + 1 - (i + 1) = k - i by omega, Nat.pow_succ]
            have h0 : 0 < P ^ i := Nat.pow_pos (by omega)
            have h1 : P ^ i < P ^ i * P := by
              calc P ^ i = P ^ i * 1 := (Nat.mul_one _).symm
                _ < P ^ i * P := Nat.mul_lt_mul_of_pos_left (by omega) h0
            exact Nat.mul_lt_mul_of_pos_left h1 (by omega)
          have htop : cf (bin p P (k + 1) (i + 1)) ((k + 1 - (i + 1)) * P ^ (i + 1)) = 1 := by
            show cf (addp p _ _ 1) _ = 1
            rw [addp_cf, m2, cf_ge (bin p P k i) _ (by omega)]
            simp
            exact Int.emod_eq_of_lt (by omega) (by omega)
          refine ⟨?_, htop⟩
          have hle := addp_length p (mulp p (tpow (P ^ (i + 1))) (bin p P k (i + 1))) (bin p P k i) 1
          have hge : ¬ (bin p P (k + 1) (i + 1)).length ≤ (k + 1 - (i + 1)) * P ^ (i + 1) := fun h => by rw [cf_ge _ _ h] at htop; omega
          have : (bin p P (k + 1) (i + 1)).length ≤ (k + 1 - (i + 1)) * P ^ (i + 1) + 1 := by
            show (addp p _ _ 1).length ≤ _
            omega
          omega
        · have hki : k = i := by omega
          subst hki
          have e1 : bin p P k (k + 1) = [] := a1 (by omega)
          have e0 : k + 1 - (k + 1) = 0 := by omega
          rw [e0, Nat.zero_mul]
          rw [show k - k = 0 by omega, Nat.zero_mul] at d1 d2
          have htop : cf (bin p P (k + 1) (k + 1)) 0 = 1 := by
            show cf (addp p (mulp p _ (bin p P k (k + 1))) (bin p P k k) 1) 0 = 1
            rw [e1, mulp_nil_right, addp_cf, cf_nil, d2]
            simp
            exact Int.emod_eq_of_lt (by omega) (by omega)
          refine ⟨?_, htop⟩
          have hle := addp_length p (mulp p (tpow (P ^ (k + 1))) (bin p P k (k + 1))) (bin p P k k) 1
          rw [e1, mulp_nil_right] at hle
          have hge : ¬ (bin p P (k + 1) (k + 1)).length ≤ 0 := fun h => by rw [cf_ge _ _ h] at htop; omega
          have : (bin p P (k + 1) (k + 1)).length ≤ 1 := by
            show (addp p (mulp p _ (bin p P k (k + 1))) (bin p P k k) 1).length ≤ _
            rw [e1, mulp_nil_right]
            simp only [List.length_nil] at hle
            omega
          omega
/-- The sum as the reference makes it: behind n coefficients. -/
def acS (p : Int) (P : Nat) (a : List Int) (i : Nat) : Nat → List Int
  | 0 => []
  | n + 1 => addp p (acS p P a i n) (bin p P n i) (cf a n)
theorem acS_Po {p : Int} (hp : 2 ≤ p) (P : Nat) (a : List Int) (i : Nat) : ∀ n, Po p (acS p P a i n)
  | 0 => Po_nil (by omega)
  | n + 1 => addp_Po (by omega) _ _ _
/-- As the program makes it, from the top. -/
def acH (p : Int) (P : Nat) : List Int → Nat → List Int
  | [], _ => []
  | c :: cs, 0 => addp p (mulp p (tpow (P ^ 0)) (acH p P cs 0)) [c] 1
  | _ :: cs, i + 1 => addp p (mulp p (tpow (P ^ (i + 1))) (acH p P cs (i + 1))) (acH p P cs i) 1
theorem acH_Po {p : Int} (hp : 2 ≤ p) (P : Nat) : ∀ a i, Po p (acH p P a i)
  | [], _ => Po_nil (by omega)
  | _ :: _, 0 => addp_Po (by omega) _ _ _
  | _ :: _, _ + 1 => addp_Po (by omega) _ _ _
/-- Sums of multiples of the binomials, from a place on. -/
def acT (p : Int) (P : Nat) : List Int → Nat → Nat → PS
  | [], _, _ => pzero
  | c :: cs, k, i => padd (psmul c (cf (bin p P k i))) (acT p P cs (k + 1) i)
theorem acT_next {p : Int} (P : Nat) (i : Nat) : ∀ (cs : List Int) (k : Nat), Eqp p (acT p P cs (k + 1) (i + 1)) (padd (pmul (cf (tpow (P ^ (i + 1)))) (acT p P cs k (i + 1))) (acT p P cs k i))
  | [], k => by
    show Eqp p pzero (padd (pmul _ pzero) pzero)
    rw [pmul_pzero, padd_pzero]; exact Eqp.refl _
  | c :: cs, k => by
    have h1 : Eqp p (cf (bin p P (k + 1) (i + 1))) (padd (pmul (cf (tpow (P ^ (i + 1)))) (cf (bin p P k (i + 1)))) (psmul 1 (cf (bin p P k i)))) := (addp_eqp p _ _ 1).trans (Eqp.add (mulp_eqp p _ _) (Eqp.refl _))
    rw [psmul_one] at h1
    have h2 := acT_next (p := p) P i cs (k + 1)
    show Eqp p (padd (psmul c (cf (bin p P (k + 1) (i + 1)))) (acT p P cs (k + 1 + 1) (i + 1))) (padd (pmul _ (padd (psmul c (cf (bin p P k (i + 1)))) (acT p P cs (k + 1) (i + 1)))) (padd (psmul c (cf (bin p P k i))) (acT p P cs (k + 1) i)))
    refine (Eqp.add (Eqp.smul h1) h2).trans (Eqp.of_eq ?_)
    rw [psmul_padd, pmul_add, pmul_psmul, padd_assoc, padd_assoc, padd_left_comm (psmul c (cf (bin p P k i)))]
theorem acT_first {p : Int} (P : Nat) : ∀ (cs : List Int) (k : Nat), Eqp p (acT p P cs (k + 1) 0) (pmul (cf (tpow (P ^ 0))) (acT p P cs k 0))
  | [], k => by
    show Eqp p pzero (pmul _ pzero)
    rw [pmul_pzero]; exact Eqp.refl _
  | c :: cs, k => by
    have h1 : Eqp p (cf (bin p P (k + 1) 0)) (pmul (cf (tpow (P ^ 0))) (cf (bin p P k 0))) := mulp_eqp p _ _
    show Eqp p (padd (psmul c (cf (bin p P (k + 1) 0))) (acT p P cs (k + 1 + 1) 0)) (pmul _ (padd (psmul c (cf (bin p P k 0))) (acT p P cs (k + 1) 0)))
    refine (Eqp.add (Eqp.smul h1) (acT_first (p := p) P cs (k + 1))).trans (Eqp.of_eq ?_)
    rw [pmul_add, pmul_psmul]
theorem acH_eqp {p : Int} (P : Nat) : ∀ (a : List Int) (i : Nat), Eqp p (cf (acH p P a i)) (acT p P a 0 i)
  | [], i => by unfold acH; rw [cf_nil_zero]; exact Eqp.refl _
  | c :: cs, 0 => by
    refine (addp_eqp p _ _ 1).trans ?_
    show Eqp p _ (padd (psmul c (cf [1])) (acT p P cs (0 + 1) 0))
    rw [padd_comm, psmul_one, cf_one]
    refine Eqp.add (Eqp.of_eq ?_) ((mulp_eqp p _ _).trans ((Eqp.mul (Eqp.refl _) (acH_eqp P cs 0)).trans (acT_first (p := p) P cs 0).symm))
    funext n
    rw [one_cf]; show _ = c * pone n
    unfold pone; split <;> simp
  | c :: cs, i + 1 => by
    refine (addp_eqp p _ _ 1).trans ?_
    show Eqp p _ (padd (psmul c (cf [])) (acT p P cs (0 + 1) (i + 1)))
    rw [cf_nil_zero, psmul_pzero, pzero_padd, psmul_one]
    refine Eqp.trans ?_ (acT_next (p := p) P i cs 0).symm
    exact Eqp.add ((mulp_eqp p _ _).trans (Eqp.mul (Eqp.refl _) (acH_eqp P cs (i + 1)))) (acH_eqp P cs i)
theorem acT_drop {p : Int} (P : Nat) (a : List Int) (i : Nat) : ∀ n, n ≤ a.length → Eqp p (acT p P a 0 i) (padd (cf (acS p P a i n)) (acT p P (a.drop n) n i))
  | 0, _ => by unfold acS; rw [cf_nil_zero, pzero_padd, List.drop_zero]; exact Eqp.refl _
  | n + 1, h => by
    refine (acT_drop P a i n (by omega)).trans ?_
    rw [drop_cons a n (by omega)]
    show Eqp p (padd _ (padd (psmul (cf a n) (cf (bin p P n i))) (acT p P (a.drop (n + 1)) (n + 1) i))) _
    rw [← padd_assoc]
    exact Eqp.add (addp_eqp p _ _ _).symm (Eqp.refl _)
theorem acS_eq {p : Int} (hp : 2 ≤ p) (P : Nat) (a : List Int) (i : Nat) : acS p P a i a.length = acH p P a i := by
  refine (acS_Po hp P a i _).eq_of_eqp (acH_Po hp P a i) (Eqp.symm ?_)
  refine (acH_eqp P a i).trans ((acT_drop P a i a.length (Nat.le_refl _)).trans (Eqp.of_eq ?_))
  rw [List.drop_length]; exact padd_pzero _
/-- How long the sums are. -/
theorem acS_len {p : Int} (hp : Pr p) {P : Nat} (hP : 2 ≤ P) {a : List Int} (ha : Po p a) (i : Nat) : ∀ n, n ≤ a.length → (acS p P a i n).length ≤ (n - 1 - i) * P ^ i + 1 ∧ (n ≤ i → acS p P a i n = [])
  | 0, _ => ⟨by simp [acS], fun _ => rfl⟩
  | n + 1, h => by
    have hp2 := hp.pos
    obtain ⟨h1, h2⟩ := acS_len hp hP ha i n (by omega)
    obtain ⟨b1, b2⟩ := bin_len hp hP n i
    have hl := addp_length p (acS p P a i n) (bin p P n i) (cf a n)
    have hmono : (n - 1 - i) * P ^ i ≤ (n + 1 - 1 - i) * P ^ i := Nat.mul_le_mul_right _ (by omega)
    refine ⟨?_, fun hi => ?_⟩
    · show (addp p _ _ _).length ≤ _
      by_cases hni : n < i
      · rw [b1 hni] at hl
        simp only [List.length_nil] at hl
        rw [b1 hni]
        omega
      · have := (b2 (by omega)).1
        rw [show n + 1 - 1 - i = n - i by omega] at *
        omega
    · show addp p _ _ _ = []
      rw [b1 (by omega), h2 (by omega)]
      exact List.length_eq_zero_iff.1 (by have := addp_length p ([] : List Int) [] (cf a n); simpa using this)
/-- The whole: exactly. -/
theorem acS_exact {p : Int} (hp : Pr p) {P : Nat} (hP : 2 ≤ P) {a : List Int} (ha : Po p a) (hne : a ≠ []) (i : Nat) (hi : i < a.length) : (acS p P a i a.length).length = (a.length - 1 - i) * P ^ i + 1 := by
  have hp2 := hp.pos
  have hl0 := List.length_pos_iff.2 hne
  obtain ⟨n, hn⟩ : ∃ n, a.length = n + 1 := ⟨a.length - 1, by omega⟩
  have h1 := acS_len hp hP ha i n (by omega)
  have h2 := acS_len hp hP ha i (n + 1) (by omega)
  have hb := (bin_len hp hP n i).2 (by omega)
  have hlead := ha.lead hne
  have hmd := ha.md n
  rw [hn, Nat.add_sub_cancel] at hlead ⊢
  rw [show n + 1 - 1 - i = n - i by omega] at h2
  have htop : cf (acS p P a i (n + 1)) ((n - i) * P ^ i) = cf a n := by
    show cf (addp p (acS p P a i n) (bin p P n i) (cf a n)) _ = _
    rw [addp_cf, hb.2, Int.mul_one]
    have hz : cf (acS p P a i n) ((n - i) * P ^ i) = 0 := by
      by_cases hin : n ≤ i
      · rw [h1.2 hin]; exact cf_nil _
      · have h0 : 0 < P ^ i := Nat.pow_pos (by omega)
        have : (n - 1 - i) * P ^ i < (n - i) * P ^ i := Nat.mul_lt_mul_of_pos_right (by omega) h0
        exact cf_ge _ _ (by have := h1.1; omega)
    rw [hz, Int.zero_add]
    exact Int.emod_eq_of_lt (by omega) (by omega)
  have hge : ¬ (acS p P a i (n + 1)).length ≤ (n - i) * P ^ i := fun h => by rw [cf_ge _ _ h] at htop; omega
  have := h2.1
  omega
end Go.Proofs.Ytionaenmjndncab

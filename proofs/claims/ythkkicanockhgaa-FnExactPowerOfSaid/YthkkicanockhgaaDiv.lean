/- Division with rest, as the program reckons it, and what it gives. No program in sight. -/
import Derived.Test.YthkkicanockhgaaRing
namespace Go.Proofs.Ythkkicanockhgaa

def powm (p x : Int) : Nat → Int
  | 0 => 1
  | n + 1 => powm p x n * x % p
/-- The inverse of a number. -/
def invp (p x : Int) : Int := powm p x (p - 2).toNat
theorem invp_spec {p x : Int} (hp : Pr p) (h0 : 0 < x) (h1 : x < p) : 0 < invp p x ∧ invp p x < p ∧ invp p x * x % p = 1 := by
  obtain ⟨X, rfl⟩ := Int.eq_ofNat_of_zero_le (show 0 ≤ x by omega)
  rcases hp with rfl | rfl | rfl | rfl
  · have key : ∀ X : Fin 2, 0 < X.val → 0 < invp 2 X.val ∧ invp 2 X.val < 2 ∧ invp 2 X.val * X.val % 2 = 1 := by decide
    exact key ⟨X, by omega⟩ (by simp; omega)
  · have key : ∀ X : Fin 3, 0 < X.val → 0 < invp 3 X.val ∧ invp 3 X.val < 3 ∧ invp 3 X.val * X.val % 3 = 1 := by decide
    exact key ⟨X, by omega⟩ (by simp; omega)
  · have key : ∀ X : Fin 5, 0 < X.val → 0 < invp 5 X.val ∧ invp 5 X.val < 5 ∧ invp 5 X.val * X.val % 5 = 1 := by decide
    exact key ⟨X, by omega⟩ (by simp; omega)
  · have key : ∀ X : Fin 7, 0 < X.val → 0 < invp 7 X.val ∧ invp 7 X.val < 7 ∧ invp 7 X.val * X.val % 7 = 1 := by decide
    exact key ⟨X, by omega⟩ (by simp; omega)

/-- One step: the multiple of b at T^i is taken away. -/
def dstep (p inv : Int) (b : List Int) (i : Nat) (r : PS) : PS :=
  fun n => if i ≤ n ∧ n < i + b.length then (r n - r (i + (b.length - 1)) * inv % p * cf b (n - i)) % p else r n
def drest (p inv : Int) (b : List Int) : Nat → PS → PS
  | 0, r => r
  | k + 1, r => drest p inv b k (dstep p inv b k r)
def dquot (p inv : Int) (b : List Int) : Nat → PS → PS
  | 0, _ => fun _ => 0
  | k + 1, r => fun j => if j = k then r (k + (b.length - 1)) * inv % p else dquot p inv b k (dstep p inv b k r) j

/-- Quotient and rest. -/
def divp (p : Int) (a b : List Int) : List Int × List Int :=
  (mkp (a.length - (b.length - 1)) (dquot p (invp p (cf b (b.length - 1))) b (a.length - (b.length - 1)) (cf a)),
   mkp a.length (drest p (invp p (cf b (b.length - 1))) b (a.length - (b.length - 1)) (cf a)))

def mono (q : Int) (k : Nat) : PS := fun n => if n = k then q else 0
theorem mono_mul (q : Int) (k : Nat) (g : PS) (n : Nat) : pmul (mono q k) g n = if k ≤ n then q * g (n - k) else 0 := by
  show sumN (n + 1) (fun i => mono q k i * g (n - i)) = _
  by_cases h : k ≤ n
  · rw [if_pos h, sumN_single (k := k) (by omega) fun i _ hne => by unfold mono; rw [if_neg hne, Int.zero_mul]]
    unfold mono; rw [if_pos rfl]
  · rw [if_neg h]
    exact (sumN_congr fun i hi => by unfold mono; rw [if_neg (by omega), Int.zero_mul]).trans (sumN_zero _)

/-- In range. -/
def In (p : Int) (r : PS) : Prop := ∀ n, 0 ≤ r n ∧ r n < p
theorem dstep_In {p inv : Int} (hp : 0 < p) {b : List Int} {i : Nat} {r : PS} (h : In p r) : In p (dstep p inv b i r) := fun n => by
  unfold dstep; split
  · exact ⟨Int.emod_nonneg _ (by omega), Int.emod_lt_of_pos _ hp⟩
  · exact h n
theorem dstep_eqp (p inv : Int) (b : List Int) (k : Nat) (r : PS) :
    Eqp p r (padd (pmul (mono (r (k + (b.length - 1)) * inv % p) k) (cf b)) (dstep p inv b k r)) := fun n => by
  show r n % p = (pmul _ _ n + dstep p inv b k r n) % p
  rw [mono_mul]
  unfold dstep
  by_cases h : k ≤ n
  · rw [if_pos h]
    by_cases h2 : n < k + b.length
    · rw [if_pos ⟨h, h2⟩, Int.add_emod_emod]; congr 1; omega
    · rw [if_neg (fun hh => h2 hh.2), cf_ge b (n - k) (by omega)]; simp
  · rw [if_neg h, if_neg (fun hh => h hh.1)]; simp
theorem dquot_ge (p inv : Int) (b : List Int) : ∀ (k : Nat) (r : PS) (j : Nat), k ≤ j → dquot p inv b k r j = 0
  | 0, _, _, _ => rfl
  | k + 1, r, j, h => by
    show (if j = k then _ else dquot p inv b k (dstep p inv b k r) j) = 0
    rw [if_neg (by omega)]; exact dquot_ge p inv b k _ j (by omega)
theorem dquot_succ (p inv : Int) (b : List Int) (k : Nat) (r : PS) :
    dquot p inv b (k + 1) r = padd (mono (r (k + (b.length - 1)) * inv % p) k) (dquot p inv b k (dstep p inv b k r)) := by
  funext j
  show (if j = k then _ else dquot p inv b k (dstep p inv b k r) j) = mono _ k j + dquot p inv b k (dstep p inv b k r) j
  unfold mono
  by_cases h : j = k
  · rw [if_pos h, if_pos h, dquot_ge p inv b k _ j (by omega)]; omega
  · rw [if_neg h, if_neg h]; omega
theorem div_eqp (p inv : Int) (b : List Int) : ∀ (k : Nat) (r : PS), Eqp p r (padd (pmul (dquot p inv b k r) (cf b)) (drest p inv b k r))
  | 0, r => Eqp.of_eq (by
      show r = padd (pmul pzero (cf b)) r
      rw [pzero_mul]; funext n; show r n = 0 + r n; omega)
  | k + 1, r => by
    refine (dstep_eqp p inv b k r).trans ?_
    rw [dquot_succ, padd_mul, padd_assoc]
    exact (Eqp.refl _).add (div_eqp p inv b k (dstep p inv b k r))
theorem dquot_In {p inv : Int} (hp : 0 < p) (b : List Int) : ∀ (k : Nat) (r : PS), In p (dquot p inv b k r)
  | 0, _ => fun _ => ⟨Int.le_refl _, hp⟩
  | k + 1, r => fun j => by
    show 0 ≤ (if j = k then _ else dquot p inv b k (dstep p inv b k r) j) ∧ (if j = k then _ else dquot p inv b k (dstep p inv b k r) j) < p
    split
    · exact ⟨Int.emod_nonneg _ (by omega), Int.emod_lt_of_pos _ hp⟩
    · exact dquot_In hp b k _ j
theorem drest_In {p inv : Int} (hp : 0 < p) (b : List Int) : ∀ (k : Nat) (r : PS), In p r → In p (drest p inv b k r)
  | 0, _, h => h
  | k + 1, _, h => drest_In hp b k _ (dstep_In hp h)
theorem top_gone {p x y l : Int} (hl : y * l % p = 1) : (x - x * y % p * l) % p = 0 := by
  have h1 : (x * y % p * l) % p = x % p := by
    rw [Int.mul_emod, Int.emod_emod_of_dvd _ (Int.dvd_refl p), ← Int.mul_emod, Int.mul_assoc, Int.mul_emod, hl]
    rw [Int.mul_one, Int.emod_emod_of_dvd _ (Int.dvd_refl p)]
  rw [Int.sub_emod, h1]; simp
theorem drest_Fin {p inv : Int} {b : List Int} (hb : 0 < b.length) (hinv : inv * cf b (b.length - 1) % p = 1) :
    ∀ (k : Nat) (r : PS), Fin0 r (k + (b.length - 1)) → Fin0 (drest p inv b k r) (b.length - 1)
  | 0, r, h => by intro i hi; exact h i (by omega)
  | k + 1, r, h => by
    refine drest_Fin hb hinv k _ fun i hi => ?_
    unfold dstep
    by_cases h1 : i = k + (b.length - 1)
    · rw [if_pos (by omega), h1, show k + (b.length - 1) - k = b.length - 1 by omega]
      exact top_gone hinv
    · rw [if_neg (by omega)]; exact h i (by omega)
/-- What lies behind a's length stays 0. -/
theorem drest_len {p inv : Int} {b : List Int} (hb : 0 < b.length) (L : Nat) : ∀ (k : Nat) (r : PS), k + (b.length - 1) ≤ L → Fin0 r L → Fin0 (drest p inv b k r) L
  | 0, _, _, h => h
  | k + 1, r, hk, h => by
    refine drest_len hb L k _ (by omega) fun i hi => ?_
    unfold dstep
    rw [if_neg (by omega)]; exact h i hi

theorem divp_spec {p : Int} (hp : Pr p) {a b : List Int} (ha : Po p a) (hb : Po p b) (hne : b ≠ []) :
    Po p (divp p a b).1 ∧ Po p (divp p a b).2 ∧ (divp p a b).2.length < b.length ∧ Eqp p (cf a) (padd (pmul (cf (divp p a b).1) (cf b)) (cf (divp p a b).2)) := by
  have hp2 := hp.pos
  have l2 : 0 < b.length := List.length_pos_iff.2 hne
  have hl := hb.lead hne
  have hinv := invp_spec hp hl (hb.md _).2
  have e1 : cf (divp p a b).1 = dquot p (invp p (cf b (b.length - 1))) b (a.length - (b.length - 1)) (cf a) := by
    funext i
    show cf (mkp _ _) i = _
    rw [mkp_cf]; split
    · rfl
    · rw [dquot_ge _ _ _ _ _ _ (by omega)]
  have e2 : cf (divp p a b).2 = drest p (invp p (cf b (b.length - 1))) b (a.length - (b.length - 1)) (cf a) := by
    funext i
    show cf (mkp _ _) i = _
    rw [mkp_cf]; split
    · rfl
    · by_cases h : b.length - 1 ≤ a.length
      · exact (drest_len l2 a.length _ _ (by omega) (cf_Fin0 a) i (by omega)).symm
      · rw [show a.length - (b.length - 1) = 0 by omega]
        exact (cf_ge a i (by omega)).symm
  refine ⟨⟨mkp_Tr _ _, fun i => ?_⟩, ⟨mkp_Tr _ _, fun i => ?_⟩, ?_, ?_⟩
  · rw [e1]; exact dquot_In (by omega) b _ _ i
  · rw [e2]; exact drest_In (by omega) b _ _ ha.md i
  · have := Tr_length_le (a := (divp p a b).2) (mkp_Tr _ _) (n := b.length - 1) fun i hi => by
      rw [e2]
      exact drest_Fin l2 hinv.2.2 _ _ (fun j hj => cf_ge a j (by omega)) i hi
    omega
  · rw [e1, e2]; exact div_eqp _ _ _ _ _

/-- The difference of two polynomials, reduced: 0 only if they are the same. -/
theorem sub_eq_nil {p : Int} {a b : List Int} (ha : Po p a) (hb : Po p b) (h : addp p a b (-1) = []) : a = b := by
  refine ha.eq_of_eqp hb fun n => ?_
  have h1 := addp_cf (p := p) a b (-1) n
  rw [h, cf_nil] at h1
  have h2 : (cf a n - cf b n) % p = 0 := by rw [show cf a n - cf b n = cf a n + -1 * cf b n by omega]; exact h1.symm
  exact Int.emod_eq_emod_iff_emod_sub_eq_zero.2 h2

/-- Quotient and rest are the only ones. -/
theorem divp_unique {p : Int} (hp : Pr p) {b q r q' r' : List Int} (hb : Po p b) (hne : b ≠ []) (hq : Po p q) (hr : Po p r) (hq' : Po p q') (hr' : Po p r')
    (hl : r.length < b.length) (hl' : r'.length < b.length)
    (h : Eqp p (padd (pmul (cf q) (cf b)) (cf r)) (padd (pmul (cf q') (cf b)) (cf r'))) : q = q' ∧ r = r' := by
  have hp2 := hp.pos
  have hd := addp_Po (p := p) (by omega) q q' (-1)
  have hz : addp p q q' (-1) = [] := by
    refine Classical.byContradiction fun hn => ?_
    have hlen := mulp_length hp hd hb hn hne
    have l1 : 0 < (addp p q q' (-1)).length := List.length_pos_iff.2 hn
    have l2 : 0 < b.length := List.length_pos_iff.2 hne
    have hm := mulp_Po (p := p) (by omega) (addp p q q' (-1)) b
    have htop := hm.lead_len (show 0 < (mulp p (addp p q q' (-1)) b).length by omega)
    rw [mulp_cf] at htop
    have e : Eqp p (pmul (cf (addp p q q' (-1))) (cf b)) (psub (cf r') (cf r)) := by
      refine ((addp_eqp p q q' (-1)).mul (Eqp.refl _)).trans ?_
      rw [padd_mul, psmul_pmul]
      intro n
      have h1 : (pmul (cf q) (cf b) n + cf r n) % p = (pmul (cf q') (cf b) n + cf r' n) % p := h n
      show (pmul (cf q) (cf b) n + -1 * pmul (cf q') (cf b) n) % p = (cf r' n - cf r n) % p
      have h2 := Int.emod_eq_emod_iff_emod_sub_eq_zero.1 h1
      refine Int.emod_eq_emod_iff_emod_sub_eq_zero.2 ?_
      rw [← h2]; congr 1; omega
    rw [e] at htop
    have z1 : cf r ((mulp p (addp p q q' (-1)) b).length - 1) = 0 := cf_ge _ _ (by omega)
    have z2 : cf r' ((mulp p (addp p q q' (-1)) b).length - 1) = 0 := cf_ge _ _ (by omega)
    unfold psub at htop
    rw [z1, z2] at htop
    simp at htop
  have hqq := sub_eq_nil hq hq' hz
  subst hqq
  refine ⟨rfl, hr.eq_of_eqp hr' fun n => ?_⟩
  have h1 : (pmul (cf q) (cf b) n + cf r n) % p = (pmul (cf q) (cf b) n + cf r' n) % p := h n
  have h2 := Int.emod_eq_emod_iff_emod_sub_eq_zero.1 h1
  refine Int.emod_eq_emod_iff_emod_sub_eq_zero.2 ?_
  rw [← h2]; congr 1; omega
theorem divp_eq {p : Int} (hp : Pr p) {a b q r : List Int} (ha : Po p a) (hb : Po p b) (hne : b ≠ []) (hq : Po p q) (hr : Po p r) (hl : r.length < b.length)
    (h : Eqp p (cf a) (padd (pmul (cf q) (cf b)) (cf r))) : divp p a b = (q, r) := by
  obtain ⟨h1, h2, h3, h4⟩ := divp_spec hp ha hb hne
  obtain ⟨e1, e2⟩ := divp_unique hp hb hne h1 h2 hq hr h3 hl (h4.symm.trans h)
  exact Prod.ext e1 e2
end Go.Proofs.Ythkkicanockhgaa

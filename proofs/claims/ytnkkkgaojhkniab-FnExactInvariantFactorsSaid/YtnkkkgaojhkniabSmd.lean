/- The diagonal form and the greatest common divisors of determinants. No program in sight. -/
import Derived.Test.YtnkkkgaojhkniabSmi
set_option linter.unusedVariables false
set_option linter.unusedSimpArgs false
namespace Go.Proofs.Ytnkkkgaojhkniab

/-- g is the monic greatest common divisor of all determinants of k rows and k columns. -/
structure IsG (p : Int) (n k : Nat) (A : Nat → Nat → PS) (g : List Int) : Prop where
  po : Po p g
  ne : g ≠ []
  one : cf g (g.length - 1) = 1
  dv : AllMinK (Dv p (cf g)) (· < n) k A
  gr : ∀ e : PS, AllMinK (Dv p e) (· < n) k A → Dv p e (cf g)
/-- A multiple, as a product of polynomials. -/
theorem Dv.list {p : Int} (hp : Pr p) {d a : List Int} (ha : Po p a) (h : Dv p (cf d) (cf a)) : ∃ q, Po p q ∧ a = mulp p q d := by
  have hp2 := hp.pos
  obtain ⟨q, N, hq, e⟩ := h
  refine ⟨low p N q, low_Po (by omega) N q, ha.eq_of_eqp (mulp_Po (by omega) _ _) (e.trans ?_)⟩
  exact (Eqp.mul (low_eqp hq).symm (Eqp.refl _)).trans (mulp_eqp p _ _).symm
theorem mulp_len_pos {p : Int} (hp : Pr p) {q d : List Int} (hq : Po p q) (hd : Po p d) (hne : mulp p q d ≠ []) : q ≠ [] ∧ d ≠ [] ∧ (mulp p q d).length + 1 = q.length + d.length := by
  rcases mulp_len hp hq hd with h | h
  · exact absurd h hne
  · exact h
theorem monic_same {p : Int} (hp : Pr p) {a b : List Int} (ha : Po p a) (hb : Po p b) (na : a ≠ []) (nb : b ≠ []) (oa : cf a (a.length - 1) = 1) (ob : cf b (b.length - 1) = 1) (h1 : Dv p (cf a) (cf b)) (h2 : Dv p (cf b) (cf a)) : a = b := by
  have hp2 := hp.pos
  obtain ⟨q, hq, e⟩ := h1.list hp hb
  obtain ⟨r, hr, e'⟩ := h2.list hp ha
  obtain ⟨q0, _, lq⟩ := mulp_len_pos hp hq ha (e ▸ nb)
  obtain ⟨r0, _, lr⟩ := mulp_len_pos hp hr hb (e' ▸ na)
  rw [← e] at lq
  rw [← e'] at lr
  have hq0 := List.length_pos_iff.2 q0
  have hr0 := List.length_pos_iff.2 r0
  have hl : b.length = a.length := by omega
  have hq1 : q.length = 1 := by omega
  have hcf : ∀ i, cf b i = cf q 0 * cf a i % p := fun i => by
    have h : cf b i = cf (mulp p q a) i := congrArg (fun x => cf x i) e
    rw [h]
    refine mulp_one_cf p (cf q 0) (fun j => ?_) a i
    split
    · rename_i h; rw [h]
    · exact cf_ge _ _ (by omega)
  have h1 := hcf (a.length - 1)
  rw [← hl, ob, hl, oa, Int.mul_one, Int.emod_eq_of_lt (hq.md 0).1 (hq.md 0).2] at h1
  refine ha.ext hb fun i => ?_
  rw [hcf i, ← h1, Int.one_mul, Int.emod_eq_of_lt (ha.md i).1 (ha.md i).2]
theorem IsG.same {p : Int} (hp : Pr p) {n k : Nat} {A : Nat → Nat → PS} {g g' : List Int} (h : IsG p n k A g) (h' : IsG p n k A g') : g = g' :=
  monic_same hp h.po h'.po h.ne h'.ne h.one h'.one (h'.gr _ h.dv) (h.gr _ h'.dv)

/-! ## determinants of lists in order tell all -/
/-- The members of a list below n, in order. -/
def inOrder (n : Nat) (R : List Nat) : List Nat := (List.range n).filter (fun x => decide (x ∈ R))
theorem inOrder_perm {n : Nat} {R : List Nat} (hd : R.Nodup) (h : ∀ i ∈ R, i < n) : R.Perm (inOrder n R) := by
  refine (List.perm_ext_iff_of_nodup hd (List.nodup_range.filter _)).2 fun a => ?_
  simp only [List.mem_filter, List.mem_range, decide_eq_true_eq]
  exact ⟨fun ha => ⟨h a ha, ha⟩, fun ha => ha.2⟩
/-- A part of the first n numbers, in order. -/
def Ord (n : Nat) (R : List Nat) : Prop := ∃ f : Nat → Bool, R = (List.range n).filter f
theorem Ord.lt {n : Nat} {R : List Nat} (h : Ord n R) {i : Nat} (hi : i ∈ R) : i < n := by
  obtain ⟨f, rfl⟩ := h
  exact List.mem_range.1 (List.mem_filter.1 hi).1
theorem Ord.nodup {n : Nat} {R : List Nat} (h : Ord n R) : R.Nodup := by
  obtain ⟨f, rfl⟩ := h
  exact List.nodup_range.filter _
theorem dv_of_ord {p : Int} {n k : Nat} {d : PS} {A : Nat → Nat → PS} (h : ∀ R C, Ord n R → Ord n C → R.length = k → C.length = k → Dv p d (det A R C)) : AllMinK (Dv p d) (· < n) k A := by
  have h1 : ∀ R C, (∀ i ∈ R, i < n) → Ord n C → R.length = k → C.length = k → Dv p d (det A R C) := fun R C hR hC h1 h2 => by
    by_cases hd : R.Nodup
    · have hp := inOrder_perm hd hR
      obtain ⟨s, _, e⟩ := det_perm A hp
      rw [e C]
      exact (h _ C ⟨_, rfl⟩ hC (hp.length_eq ▸ h1) h2).smul s
    · rw [det_dup A hd]; exact Dv.zero _
  intro R C hR hC h1' h2
  rw [det_flip A k R C h1' h2]
  by_cases hd : C.Nodup
  · have hp := inOrder_perm hd hC
    obtain ⟨s, _, e⟩ := det_perm (fun i j => A j i) hp
    rw [e R, ← det_flip A k R (inOrder n C) h1' (hp.length_eq ▸ h2)]
    exact (h1 R _ hR ⟨_, rfl⟩ h1' (hp.length_eq ▸ h2)).smul s
  · rw [det_dup _ hd]; exact Dv.zero _

/-! ## the diagonal -/
def prodL (D : Nat → PS) : List Nat → PS
  | [] => pone
  | r :: R => pmul (D r) (prodL D R)
def prodS (D : Nat → PS) (s : Nat) : Nat → PS
  | 0 => pone
  | k + 1 => pmul (D s) (prodS D (s + 1) k)
theorem Dv.pmul {p : Int} {a b c d : PS} (h : Dv p a b) (k : Dv p c d) : Dv p (pmul a c) (pmul b d) := by
  obtain ⟨q, N, hq, e⟩ := h
  obtain ⟨r, M, hr, e'⟩ := k
  refine ⟨Go.Proofs.Ytnkkkgaojhkniab.pmul q r, _, hq.pmul hr, (Eqp.mul e e').trans (Eqp.of_eq ?_)⟩
  rw [pmul_assoc, pmul_assoc, pmul_left_comm a r c]
theorem det_prodL {p : Int} {a : Nat → Nat → PS} {D : Nat → PS} {n : Nat} (h : ∀ i j, i < n → j < n → Dv p (D i) (a i j)) : ∀ (R C : List Nat), (∀ i ∈ R, i < n) → (∀ c ∈ C, c < n) → Dv p (prodL D R) (det a R C)
  | [], _, _, _ => Dv.refl _
  | r :: R, C, hR, hC => by
    rw [det_cons]
    refine alt_close (Q := Dv p (prodL D (r :: R))) (fun _ _ h1 h2 => h1.add (h2.smul (-1))) (Dv.zero _) C _ fun c X _ hc hX => ?_
    exact (h r c (hR r (by simp)) (hC c hc)).pmul (det_prodL h R X (fun i hi => hR i (by simp [hi])) fun x hx => hC x (hX x hx))
theorem prodS_dv {p : Int} {D : Nat → PS} {n : Nat} (h : ∀ i j, i ≤ j → j < n → Dv p (D i) (D j)) : ∀ (R : List Nat) (s : Nat), R.Pairwise (· < ·) → (∀ r ∈ R, s ≤ r ∧ r < n) → Dv p (prodS D s R.length) (prodL D R)
  | [], _, _, _ => Dv.refl _
  | r :: R, s, hs, hR => by
    have hp := List.pairwise_cons.1 hs
    have hr := hR r (by simp)
    refine (h s r hr.1 hr.2).pmul (prodS_dv h R (s + 1) hp.2 fun x hx => ?_)
    have := hp.1 x hx
    have := hR x (by simp [hx])
    omega
theorem Ord.pairwise {n : Nat} {R : List Nat} (h : Ord n R) : R.Pairwise (· < ·) := by
  obtain ⟨f, rfl⟩ := h
  exact List.pairwise_lt_range.filter _
theorem det_corner {p : Int} {a : Nat → Nat → PS} {n : Nat} (h0 : ∀ i j, i < n → j < n → i ≠ j → Eqp p (a i j) pzero) : ∀ (k s : Nat), s + k ≤ n → Eqp p (det a (List.range' s k) (List.range' s k)) (prodS (fun i => a i i) s k)
  | 0, _, _ => Eqp.refl _
  | k + 1, s, hs => by
    rw [List.range'_succ, det_cons]
    show Eqp p (padd (pmul (a s s) (det a (List.range' (s + 1) k) (List.range' (s + 1) k))) (psmul (-1) (alt (fun x X => pmul (a s x) (det a (List.range' (s + 1) k) (s :: X))) (List.range' (s + 1) k)))) (pmul (a s s) (prodS (fun i => a i i) (s + 1) k))
    have hz : Eqp p (alt (fun x X => pmul (a s x) (det a (List.range' (s + 1) k) (s :: X))) (List.range' (s + 1) k)) pzero := by
      refine (alt_eqp _ _ (fun _ _ => pzero) fun c X _ hc _ => ?_).trans (Eqp.of_eq (alt_zero _))
      have := List.mem_range'_1.1 hc
      exact (Eqp.mul (h0 s c (by omega) (by omega) (by omega)) (Eqp.refl _)).trans (Eqp.of_eq (pzero_mul _))
    refine (Eqp.add (Eqp.mul (Eqp.refl _) (det_corner h0 k (s + 1) (by omega))) (Eqp.smul hz)).trans (Eqp.of_eq ?_)
    rw [psmul_pzero, padd_pzero]
/-- The monic polynomial. -/
def monic (p : Int) (a : List Int) : List Int := scl p a (invp p (cf a (a.length - 1)))
/-- The product of the first k of the diagonal, monic. -/
def gk (p : Int) (D : Nat → List Int) : Nat → List Int
  | 0 => [1]
  | k + 1 => mulp p (gk p D k) (monic p (D k))
theorem monic_Po {p : Int} (hp : Pr p) (a : List Int) : Po p (monic p a) := scl_Po (by have := hp.pos; omega) _ _
theorem monic_ne {p : Int} (hp : Pr p) {a : List Int} (ha : Po p a) (hne : a ≠ []) : monic p a ≠ [] ∧ (monic p a).length = a.length ∧ cf (monic p a) ((monic p a).length - 1) = 1 := by
  obtain ⟨h1, h2⟩ := scl_monic hp ha hne
  have := List.length_pos_iff.2 hne
  exact ⟨fun e => by unfold monic at e; rw [e] at h1; simp at h1; omega, h1, by unfold monic; rw [h1]; exact h2⟩
theorem monic_dv {p : Int} (hp : Pr p) {a : List Int} (ha : Po p a) (hne : a ≠ []) : Dv p (cf (monic p a)) (cf a) ∧ Dv p (cf a) (cf (monic p a)) := by
  have hp2 := hp.pos
  have hi := invp_spec hp (ha.lead hne) (ha.md _).2
  have e := scl_eqp p a (invp p (cf a (a.length - 1)))
  refine ⟨⟨psmul (cf a (a.length - 1)) pone, 1, pone_Fin0.psmul _, ?_⟩, ⟨psmul (invp p (cf a (a.length - 1))) pone, 1, pone_Fin0.psmul _, ?_⟩⟩
  · rw [psmul_pmul, pone_mul]
    have := Eqp.smul (c := cf a (a.length - 1)) e
    refine Eqp.trans ?_ this.symm
    rw [psmul_psmul]
    intro n
    show cf a n % p = (cf a (a.length - 1) * invp p (cf a (a.length - 1)) * cf a n) % p
    rw [Int.mul_comm (cf a (a.length - 1))]
    have := hi.2.2
    rw [Int.mul_emod, this, Int.one_mul, Int.emod_emod_of_dvd _ (Int.dvd_refl p)]
  · rw [psmul_pmul, pone_mul]; exact e
theorem mulp_monic {p : Int} (hp : Pr p) {a b : List Int} (ha : Po p a) (hb : Po p b) (na : a ≠ []) (nb : b ≠ []) (oa : cf a (a.length - 1) = 1) (ob : cf b (b.length - 1) = 1) :
    mulp p a b ≠ [] ∧ cf (mulp p a b) ((mulp p a b).length - 1) = 1 := by
  have hp2 := hp.pos
  have hl := mulp_length hp ha hb na nb
  have h1 := List.length_pos_iff.2 na
  have h2 := List.length_pos_iff.2 nb
  refine ⟨fun e => by rw [e] at hl; simp at hl; omega, ?_⟩
  rw [mulp_cf, show (mulp p a b).length - 1 = (a.length - 1) + (b.length - 1) by omega]
  have : pmul (cf a) (cf b) ((a.length - 1) + (b.length - 1)) % p = cf a (a.length - 1) * cf b ((a.length - 1) + (b.length - 1) - (a.length - 1)) % p := sumN_one_mod (by omega) fun j hj hne => by
    by_cases e2 : a.length ≤ j
    · rw [cf_ge a j e2, Int.zero_mul]; exact Int.zero_emod p
    · rw [cf_ge b _ (by omega), Int.mul_zero]; exact Int.zero_emod p
  rw [this, show (a.length - 1) + (b.length - 1) - (a.length - 1) = b.length - 1 by omega, oa, ob, Int.mul_one]
  exact Int.emod_eq_of_lt (by omega) (by omega)
theorem one_monic : cf [1] (([1] : List Int).length - 1) = 1 := by simp [cf]
theorem gk_monic {p : Int} (hp : Pr p) {D : Nat → List Int} : ∀ k, (∀ i, i < k → Po p (D i) ∧ D i ≠ []) → Po p (gk p D k) ∧ gk p D k ≠ [] ∧ cf (gk p D k) ((gk p D k).length - 1) = 1
  | 0, _ => by have hp2 := hp.pos; exact ⟨one_Po hp2.1, by unfold gk; simp, one_monic⟩
  | k + 1, h => by
    have hp2 := hp.pos
    obtain ⟨h1, h2, h3⟩ := gk_monic hp k fun i hi => h i (by omega)
    obtain ⟨m1, m2, m3⟩ := monic_ne hp (h k (by omega)).1 (h k (by omega)).2
    have := mulp_monic hp h1 (monic_Po hp (D k)) h2 m1 h3 m3
    exact ⟨mulp_Po (by omega) _ _, this.1, this.2⟩
theorem prodS_last (D : Nat → PS) : ∀ (k s : Nat), prodS D s (k + 1) = pmul (prodS D s k) (D (s + k))
  | 0, s => by show pmul (D s) pone = pmul pone (D s); rw [pmul_one, pone_mul]
  | k + 1, s => by
    show pmul (D s) (prodS D (s + 1) (k + 1)) = pmul (pmul (D s) (prodS D (s + 1) k)) (D (s + (k + 1)))
    rw [prodS_last D k (s + 1), pmul_assoc, show s + 1 + k = s + (k + 1) by omega]
theorem gk_dv {p : Int} (hp : Pr p) {D : Nat → List Int} : ∀ k, (∀ i, i < k → Po p (D i) ∧ D i ≠ []) → Dv p (cf (gk p D k)) (prodS (fun i => cf (D i)) 0 k) ∧ Dv p (prodS (fun i => cf (D i)) 0 k) (cf (gk p D k))
  | 0, _ => by
    show Dv p (cf [1]) pone ∧ Dv p pone (cf [1])
    rw [cf_one]; exact ⟨Dv.refl _, Dv.refl _⟩
  | k + 1, h => by
    obtain ⟨h1, h2⟩ := gk_dv hp k fun i hi => h i (by omega)
    obtain ⟨m1, m2⟩ := monic_dv hp (h k (by omega)).1 (h k (by omega)).2
    rw [prodS_last, Nat.zero_add]
    show Dv p (cf (mulp p (gk p D k) (monic p (D k)))) _ ∧ Dv p _ (cf (mulp p (gk p D k) (monic p (D k))))
    have e := mulp_eqp p (gk p D k) (monic p (D k))
    refine ⟨?_, (h2.pmul m2).congr e⟩
    obtain ⟨q, N, hq, e2⟩ := h1.pmul m1
    exact ⟨q, N, hq, e2.trans (Eqp.mul (Eqp.refl _) e.symm)⟩
/-- What the diagonal tells of the matrix. -/
theorem Sm.isG {p : Int} (hp : Pr p) {n : Nat} {A : Nat → Nat → PS} {M : MxL} (h : Sm p n A n M) {k : Nat} (hk : k ≤ n) : IsG p n k A (gk p (fun i => M i i) k) := by
  have hD : ∀ i, i < k → Po p (M i i) ∧ M i i ≠ [] := fun i hi => ⟨h.po i i (by omega) (by omega), h.piv i (by omega)⟩
  obtain ⟨g1, g2, g3⟩ := gk_monic hp (D := fun i => M i i) k hD
  obtain ⟨d1, d2⟩ := gk_dv hp (D := fun i => M i i) k hD
  have h0 : ∀ i j, i < n → j < n → i ≠ j → Eqp p (cfm M i j) pzero := fun i j hi hj hne => by
    show Eqp p (cf (M i j)) pzero
    rw [(h.low i hi j hj (by omega)).1, cf_nil_zero]; exact Eqp.refl _
  refine ⟨g1, g2, g3, ?_, fun e he => ?_⟩
  · refine h.eqv.dv.2 (dv_of_ord fun R C hR hC h1 h2 => ?_)
    have hd : ∀ i j, i < n → j < n → Dv p (cf (M i i)) (cfm M i j) := fun i j hi hj => by
      by_cases e : i = j
      · subst e; exact Dv.refl _
      · exact (Dv.zero _).congr (h0 i j hi hj e)
    have hs := prodS_dv (p := p) (D := fun i => cf (M i i)) (n := n) (fun i j hij hj => h.div i (by omega) j j ⟨hij, hj⟩ ⟨hij, hj⟩) R 0 hR.pairwise fun r hr => ⟨Nat.zero_le _, hR.lt hr⟩
    rw [h1] at hs
    exact (d1.trans hs).trans (det_prodL (D := fun i => cf (M i i)) hd R C (fun i hi => hR.lt hi) fun c hc => hC.lt hc)
  · have h1 := h.eqv.dv.1 he (List.range' 0 k) (List.range' 0 k) (fun i hi => by have := (List.mem_range'_1.1 hi); omega) (fun i hi => by have := (List.mem_range'_1.1 hi); omega) List.length_range' List.length_range'
    exact (h1.congr (det_corner h0 k 0 (by omega)).symm).trans d2
/-- The quotients of those divisors. -/
theorem gk_quot {p : Int} (hp : Pr p) {D : Nat → List Int} {k : Nat} (h : ∀ i, i < k + 1 → Po p (D i) ∧ D i ≠ []) : (divp p (gk p D (k + 1)) (gk p D k)).1 = monic p (D k) := by
  have hp2 := hp.pos
  obtain ⟨h1, h2, h3⟩ := gk_monic hp k fun i hi => h i (by omega)
  have hl := List.length_pos_iff.2 h2
  show (divp p (mulp p (gk p D k) (monic p (D k))) (gk p D k)).1 = _
  rw [divp_eq hp (q := monic p (D k)) (r := []) (mulp_Po (by omega) _ _) h1 h2 (monic_Po hp _) (Po_nil (by omega)) hl ?_]
  rw [cf_nil_zero, padd_pzero]
  exact (mulp_eqp p _ _).trans (Eqp.of_eq (pmul_comm _ _))
end Go.Proofs.Ytnkkkgaojhkniab

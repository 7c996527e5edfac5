/- Reduction of forms: the degrees fall. No program in sight. -/
import Derived.Test.YtohgjihccjnheabD8
set_option linter.unusedVariables false
set_option linter.unusedSimpArgs false
namespace Go.Proofs.Ytohgjihccjnheab

theorem addp_len_ne {p : Int} (hp : Pr p) {a b : List Int} (ha : Po p a) (hb : Po p b) (h : a.length ≠ b.length) : (addp p a b (-1)).length = max a.length b.length := by
  have hl := addp_length p a b (-1)
  have hp2 := hp.pos
  have key : cf (addp p a b (-1)) (max a.length b.length - 1) ≠ 0 := by
    rw [addp_cf]
    by_cases h1 : a.length < b.length
    · have h2 := hb.lead_len (by omega)
      have h3 := hb.md (b.length - 1)
      rw [show max a.length b.length = b.length by omega, cf_ge a _ (by omega)]
      intro e
      have h4 : (0 + -1 * cf b (b.length - 1)) % p = (p - cf b (b.length - 1)) % p := by rw [show p - cf b (b.length - 1) = (0 + -1 * cf b (b.length - 1)) + p by omega, Int.add_emod_right]
      rw [h4, Int.emod_eq_of_lt (by omega) (by omega)] at e
      omega
    · have h2 := ha.lead_len (by omega)
      have h3 := ha.md (a.length - 1)
      rw [show max a.length b.length = a.length by omega, cf_ge b _ (by omega), Int.mul_zero, Int.add_zero, Int.emod_eq_of_lt h3.1 h3.2]
      omega
  by_cases h1 : (addp p a b (-1)).length ≤ max a.length b.length - 1
  · exact absurd (cf_ge _ _ h1) key
  · omega
theorem sq_length {p : Int} (hp : Pr p) {ys : List Int} (hy : Po p ys) : (ys = [] ∧ (mulp p ys ys).length = 0) ∨ (0 < ys.length ∧ (mulp p ys ys).length + 1 = 2 * ys.length) := by
  by_cases h : ys = []
  · left; subst h; exact ⟨rfl, by rw [mulp_nil]; rfl⟩
  · right
    have := mulp_length hp hy hy h h
    exact ⟨List.length_pos_iff.2 h, by omega⟩
theorem sqd_length {p : Int} (hp : Pr p) {ds ys : List Int} (hd : Po p ds) (hy : Po p ys) (h2 : ds.length % 2 = 0) (h0 : 0 < ds.length) : (sqd p ds ys).length = max (mulp p ys ys).length ds.length :=
  addp_len_ne hp (mulp_Po (by have := hp.pos; omega) _ _) hd (by rcases sq_length hp hy with ⟨_, h⟩ | ⟨_, h⟩ <;> omega)
/-- The next form's first list. -/
def qof (p : Int) (ds xs ys : List Int) : List Int := (divp p (sqd p ds ys) xs).1
def nfa (p : Int) (ds xs ys : List Int) : List Int := scl p (qof p ds xs ys) (invp p (cf (qof p ds xs ys) ((qof p ds xs ys).length - 1)))
structure Rd (p : Int) (ds xs ys : List Int) : Prop where
  pr : Pr p
  dP : Po p ds
  dl : ds.length = 2 ∨ ds.length = 4 ∨ ds.length = 6
  xP : Po p xs
  yP : Po p ys
  frm : FrmL p ds xs ys
theorem Rd.ne {p : Int} {ds xs ys : List Int} (h : Rd p ds xs ys) : xs ≠ [] := fun e => by have := h.frm.2.2.1; rw [e] at this; simp at this
theorem Rd.sP {p : Int} {ds xs ys : List Int} (h : Rd p ds xs ys) : Po p (sqd p ds ys) := addp_Po (by have := h.pr.pos; omega) _ _ _
theorem Rd.slen {p : Int} {ds xs ys : List Int} (h : Rd p ds xs ys) : (sqd p ds ys).length = max (mulp p ys ys).length ds.length :=
  sqd_length h.pr h.dP h.yP (by have := h.dl; omega) (by have := h.dl; omega)
theorem Rd.quot {p : Int} {ds xs ys : List Int} (h : Rd p ds xs ys) : Po p (qof p ds xs ys) ∧ qof p ds xs ys ≠ [] ∧ Eqp p (cf (sqd p ds ys)) (pmul (cf (qof p ds xs ys)) (cf xs)) ∧ (qof p ds xs ys).length + xs.length = (sqd p ds ys).length + 1 := by
  have hsp := divp_spec h.pr h.sP h.xP h.ne
  have hr : (divp p (sqd p ds ys) xs).2 = [] := h.frm.2.2.2
  have he : Eqp p (cf (sqd p ds ys)) (pmul (cf (qof p ds xs ys)) (cf xs)) := by
    refine hsp.2.2.2.trans (Eqp.of_eq ?_)
    rw [hr, cf_nil_zero, padd_pzero]; rfl
  have hm : sqd p ds ys = mulp p (qof p ds xs ys) xs := h.sP.eq_of_eqp (mulp_Po (by have := h.pr.pos; omega) _ _) (he.trans (mulp_eqp p _ _).symm)
  have hne : qof p ds xs ys ≠ [] := fun e => by
    rw [e, mulp_nil] at hm
    have h1 := h.slen
    have h2 := h.dl
    rw [hm] at h1; simp at h1; omega
  have hl := mulp_length h.pr hsp.1 h.xP hne h.ne
  exact ⟨hsp.1, hne, he, by rw [hm]; exact hl.symm⟩
theorem Rd.nfa_spec {p : Int} {ds xs ys : List Int} (h : Rd p ds xs ys) : Po p (nfa p ds xs ys) ∧ (nfa p ds xs ys).length = (qof p ds xs ys).length ∧ nfa p ds xs ys ≠ [] ∧ cf (nfa p ds xs ys) ((nfa p ds xs ys).length - 1) = 1 := by
  obtain ⟨hq, hne, _, _⟩ := h.quot
  obtain ⟨h1, h2⟩ := scl_monic h.pr hq hne
  refine ⟨scl_Po (by have := h.pr.pos; omega) _ _, h1, fun e => ?_, ?_⟩
  · have h3 : (nfa p ds xs ys).length = (qof p ds xs ys).length := h1
    rw [e] at h3
    exact hne (List.length_eq_zero_iff.1 h3.symm)
  · have h3 : (nfa p ds xs ys).length = (qof p ds xs ys).length := h1
    rw [h3]; exact h2
/-- The square is a multiple of the next list. -/
theorem Rd.mult {p : Int} {ds xs ys : List Int} (h : Rd p ds xs ys) : Cg p (cf (nfa p ds xs ys)) (cf (sqd p ds ys)) pzero := by
  obtain ⟨hq, hne, he, _⟩ := h.quot
  have hi := invp_spec h.pr (hq.lead hne) (hq.md _).2
  obtain ⟨l, hl⟩ : ∃ l, cf (qof p ds xs ys) ((qof p ds xs ys).length - 1) = l := ⟨_, rfl⟩
  rw [hl] at hi
  have e1 : Eqp p (cf (nfa p ds xs ys)) (psmul (invp p l) (cf (qof p ds xs ys))) := by
    have := scl_eqp p (qof p ds xs ys) (invp p l)
    unfold nfa; rw [hl]; exact this
  have e2 : Eqp p (psmul l (cf (nfa p ds xs ys))) (cf (qof p ds xs ys)) := fun n => by
    have := e1 n
    show (l * cf (nfa p ds xs ys) n) % p = _
    rw [Int.mul_emod, this, ← Int.mul_emod]
    show (l * (invp p l * cf (qof p ds xs ys) n)) % p = _
    rw [← Int.mul_assoc, Int.mul_comm l, Int.mul_emod, hi.2.2, Int.one_mul, Int.emod_emod_of_dvd _ (Int.dvd_refl p)]
  refine (Cg.of_eqp ?_).trans (Cg.of_mul ((cf_Fin0 xs).psmul l))
  refine he.trans ((Eqp.mul e2.symm (Eqp.refl _)).trans (Eqp.of_eq ?_))
  rw [psmul_pmul, psmul_pmul, pmul_comm]

/-- Congruent squares. -/
theorem sqd_cg {p : Int} (hp : Pr p) {ds ys zs m : List Int} (h : Cg p (cf m) (cf ys) (cf zs)) : Cg p (cf m) (cf (sqd p ds ys)) (cf (sqd p ds zs)) := by
  refine (Cg.of_eqp (addp_eqp p _ _ _)).trans (Cg.trans ?_ (Cg.of_eqp (addp_eqp p _ _ _)).symm)
  refine Cg.add ?_ (Cg.refl _)
  exact (Cg.of_eqp (mulp_eqp p _ _)).trans ((Cg.mul (cf_Fin0 ys) (cf_Fin0 zs) h h).trans (Cg.of_eqp (mulp_eqp p _ _)).symm)
theorem opp_cg {p : Int} (hp : Pr p) {xs ys : List Int} (hx : Po p xs) (hne : xs ≠ []) : Cg p (cf xs) (cf (opp p xs ys)) (psmul (-1) (cf ys)) := by
  have hp2 := hp.pos
  refine (rst_cg hp (addp_Po (by omega) [] ys (-1)) hx hne).symm.trans (Cg.of_eqp ((addp_eqp p [] ys (-1)).trans (Eqp.of_eq ?_)))
  rw [cf_nil_zero, pzero_padd]
theorem sqd_neg {p : Int} (hp : Pr p) {ds ys m zs : List Int} (h : Cg p (cf m) (cf zs) (psmul (-1) (cf ys))) : Cg p (cf m) (cf (sqd p ds zs)) (cf (sqd p ds ys)) := by
  refine (Cg.of_eqp (addp_eqp p _ _ _)).trans (Cg.trans ?_ (Cg.of_eqp (addp_eqp p _ _ _)).symm)
  refine Cg.add ?_ (Cg.refl _)
  refine (Cg.of_eqp (mulp_eqp p _ _)).trans ((Cg.mul (cf_Fin0 zs) ((cf_Fin0 ys).psmul (-1)) h h).trans (Cg.trans (Cg.of_eqp (Eqp.of_eq ?_)) (Cg.of_eqp (mulp_eqp p _ _)).symm))
  exact RE.same [cf ys] ((-.v 0) * (-.v 0)) (.v 0 * .v 0) (by decide) rfl rfl
theorem rst_nil_of_cg {p : Int} (hp : Pr p) {a m : List Int} (ha : Po p a) (hm : Po p m) (hne : m ≠ []) (h : Cg p (cf m) (cf a) pzero) : rst p a m = [] :=
  rst_of_cg hp ha hm hne (Po_nil (by have := hp.pos; omega)) (List.length_pos_iff.2 hne) (by rw [cf_nil_zero]; exact h)
theorem cg_of_rst_nil {p : Int} (hp : Pr p) {a m : List Int} (ha : Po p a) (hm : Po p m) (hne : m ≠ []) (h : rst p a m = []) : Cg p (cf m) (cf a) pzero := by
  have := rst_cg hp ha hm hne
  rwa [h, cf_nil_zero] at this
/-- The next form. -/
def nfb (p : Int) (ds xs ys : List Int) : List Int := opp p (nfa p ds xs ys) ys
theorem Rd.half {p : Int} {ds xs ys : List Int} (h : Rd p ds xs ys) : gns ds = ((ds.length / 2 : Nat) : Int) - 1 ∧ ds.length ≤ 6 ∧ ds.length % 2 = 0 ∧ 2 ≤ ds.length := by
  unfold gns
  rcases h.dl with e | e | e <;> rw [e] <;> decide
theorem Rd.next {p : Int} {ds xs ys : List Int} (h : Rd p ds xs ys) (hg : ¬ (xs.length : Int) - 1 ≤ gns ds) : Rd p ds (nfa p ds xs ys) (nfb p ds xs ys) ∧ (nfa p ds xs ys).length < xs.length := by
  have hp2 := h.pr.pos
  obtain ⟨n1, n2, n3, n4⟩ := h.nfa_spec
  obtain ⟨q1, q2, q3, q4⟩ := h.quot
  have hs := h.slen
  have hgh := h.half
  have hlt : (nfa p ds xs ys).length < xs.length := by
    have h3 := h.frm.2.2.1
    rcases sq_length h.pr h.yP with ⟨_, e⟩ | ⟨_, e⟩ <;> omega
  have hop := opp_cg h.pr (ys := ys) n1 n3
  refine ⟨⟨h.pr, h.dP, h.dl, n1, rst_Po h.pr (addp_Po (by omega) _ _ _) n1 n3, n4, by have := h.frm.2.1; omega, rst_lt h.pr (addp_Po (by omega) _ _ _) n1 n3, ?_⟩, hlt⟩
  exact rst_nil_of_cg h.pr (addp_Po (by omega) _ _ _) n1 n3 ((sqd_neg h.pr hop).trans h.mult)
/-- Reduction. -/
def red (p : Int) (ds : List Int) : Nat → List Int → List Int → List Int × List Int
  | 0, xs, ys => (xs, ys)
  | n + 1, xs, ys => if (xs.length : Int) - 1 ≤ gns ds then (xs, ys) else red p ds n (nfa p ds xs ys) (nfb p ds xs ys)
theorem red_stop (p : Int) (ds xs ys : List Int) (n : Nat) (h : (xs.length : Int) - 1 ≤ gns ds) : red p ds n xs ys = (xs, ys) := by
  cases n with
  | zero => rfl
  | succ n => unfold red; rw [if_pos h]
theorem red_go (p : Int) (ds xs ys : List Int) (n : Nat) (h : ¬ (xs.length : Int) - 1 ≤ gns ds) : red p ds (n + 1) xs ys = red p ds n (nfa p ds xs ys) (nfb p ds xs ys) := by
  rw [red, if_neg h]
theorem Rd.red {p : Int} {ds : List Int} : ∀ (n : Nat) {xs ys : List Int}, Rd p ds xs ys → xs.length ≤ n → Rd p ds (red p ds n xs ys).1 (red p ds n xs ys).2 ∧ ((red p ds n xs ys).1.length : Int) - 1 ≤ gns ds
  | 0, xs, ys, h, hl => by
    have := List.length_pos_iff.2 h.ne
    omega
  | n + 1, xs, ys, h, hl => by
    by_cases hg : (xs.length : Int) - 1 ≤ gns ds
    · rw [red_stop p ds xs ys _ hg]; exact ⟨h, hg⟩
    · rw [red_go p ds xs ys _ hg]
      obtain ⟨h1, h2⟩ := h.next hg
      exact Rd.red n h1 (by omega)
/-- A list made monic. -/
def mnc (p : Int) (q : List Int) : List Int := scl p q (invp p (cf q (q.length - 1)))
theorem nfa_mnc (p : Int) (ds xs ys : List Int) : nfa p ds xs ys = mnc p (qof p ds xs ys) := rfl
/-- Two monic lists, the one a multiple of the other. -/
theorem monic_same {p : Int} (hp : Pr p) {a b : List Int} {t : Int} (ha : Po p a) (hb : Po p b) (hl : a.length = b.length) (h1 : cf a (a.length - 1) = 1) (h2 : cf b (b.length - 1) = 1) (h : Eqp p (cf a) (psmul t (cf b))) : a = b := by
  refine ha.eq_of_eqp hb fun n => ?_
  have e1 := h n
  have e2 := h (a.length - 1)
  have e3 : cf a (a.length - 1) % p = (t * cf b (a.length - 1)) % p := e2
  rw [h1, hl, h2, Int.mul_one] at e3
  rw [e1]
  show (t * cf b n) % p = cf b n % p
  rw [Int.mul_emod, ← e3, ← Int.mul_emod, Int.one_mul]
theorem mnc_spec {p : Int} (hp : Pr p) {q : List Int} (hq : Po p q) (hne : q ≠ []) : Po p (mnc p q) ∧ (mnc p q).length = q.length ∧ cf (mnc p q) ((mnc p q).length - 1) = 1 ∧ Eqp p (cf (mnc p q)) (psmul (invp p (cf q (q.length - 1))) (cf q)) := by
  have hm := scl_monic hp hq hne
  have h1 : (mnc p q).length = q.length := hm.1
  refine ⟨scl_Po (by have := hp.pos; omega) _ _, h1, by rw [h1]; exact hm.2, scl_eqp p _ _⟩
theorem mnc_same {p : Int} (hp : Pr p) {q r : List Int} {t : Int} (hq : Po p q) (hr : Po p r) (hl : q.length = r.length) (hne : q ≠ []) (h : Eqp p (cf q) (psmul t (cf r))) : mnc p q = mnc p r := by
  have hne2 : r ≠ [] := fun e => hne (List.length_eq_zero_iff.1 (by rw [hl, e]; rfl))
  obtain ⟨a1, a2, a3, a4⟩ := mnc_spec hp hq hne
  obtain ⟨b1, b2, b3, b4⟩ := mnc_spec hp hr hne2
  have hi := invp_spec hp (hr.lead hne2) (hr.md _).2
  have back : Eqp p (psmul (cf r (r.length - 1)) (cf (mnc p r))) (cf r) := by
    refine (Eqp.smul b4).trans ?_
    rw [psmul_psmul]
    intro n
    show (cf r (r.length - 1) * invp p (cf r (r.length - 1)) * cf r n) % p = cf r n % p
    rw [Int.mul_comm (cf r (r.length - 1)), Int.mul_emod, hi.2.2, Int.one_mul, Int.emod_emod_of_dvd _ (Int.dvd_refl p)]
  refine monic_same hp a1 b1 (by omega) a3 b3 (t := invp p (cf q (q.length - 1)) * (t * cf r (r.length - 1))) ?_
  refine a4.trans ((Eqp.smul (h.trans (Eqp.smul back.symm))).trans (Eqp.of_eq ?_))
  rw [psmul_psmul, psmul_psmul, Int.mul_assoc]
/-- The program's difference is the other way round. -/
theorem nfa_other {p : Int} {ds xs ys : List Int} (h : Rd p ds xs ys) : mnc p (divp p (addp p ds (mulp p ys ys) (-1)) xs).1 = nfa p ds xs ys := by
  have hp2 := h.pr.pos
  obtain ⟨q1, q2, q3, q4⟩ := h.quot
  have hx0 := List.length_pos_iff.2 h.ne
  have e : divp p (addp p ds (mulp p ys ys) (-1)) xs = (scl p (qof p ds xs ys) (-1), []) := by
    refine divp_eq h.pr (addp_Po (by omega) _ _ _) h.xP h.ne (scl_Po (by omega) _ _) (Po_nil (by omega)) (by simpa using hx0) ?_
    refine (addp_eqp p _ _ _).trans ?_
    rw [cf_nil_zero, padd_pzero]
    have e1 := (addp_eqp p (mulp p ys ys) ds (-1)).symm.trans (show Eqp p (cf (addp p (mulp p ys ys) ds (-1))) _ from q3)
    refine Eqp.trans ?_ (Eqp.mul (scl_eqp p _ _) (Eqp.refl _)).symm
    refine Eqp.lin1 (psmul (-1) pone) e1 ?_
    exact RE.same [cf ds, cf (mulp p ys ys), cf (qof p ds xs ys), cf xs] (.v 0 + -.v 1 + -((-.v 2) * .v 3)) ((-.one) * (.v 1 + -.v 0 + -(.v 2 * .v 3))) (by decide) rfl rfl
  rw [e, nfa_mnc]
  have hl : (scl p (qof p ds xs ys) (-1)).length = (qof p ds xs ys).length := by
    have h1 := scl_length_le p (qof p ds xs ys) (-1)
    have h2 := scl_length_le p (scl p (qof p ds xs ys) (-1)) (-1)
    have h3 : scl p (scl p (qof p ds xs ys) (-1)) (-1) = qof p ds xs ys := (scl_Po (by omega) _ _).eq_of_eqp q1 ((scl_eqp p _ _).trans ((Eqp.smul (scl_eqp p _ _)).trans (Eqp.of_eq (by rw [psmul_psmul]; exact psmul_one _))))
    rw [h3] at h2
    omega
  have hne2 : scl p (qof p ds xs ys) (-1) ≠ [] := fun e => by
    rw [e] at hl
    exact q2 (List.length_eq_zero_iff.1 hl.symm)
  exact mnc_same h.pr (scl_Po (by omega) _ _) q1 hl hne2 (scl_eqp p _ _)
end Go.Proofs.Ytohgjihccjnheab

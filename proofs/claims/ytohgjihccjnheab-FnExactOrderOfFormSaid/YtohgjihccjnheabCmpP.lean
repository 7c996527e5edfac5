/- The composition of two forms is a form. No program in sight. -/
import Derived.Test.YtohgjihccjnheabFrmP
set_option linter.unusedVariables false
set_option linter.unusedSimpArgs false
namespace Go.Proofs.Ytohgjihccjnheab

/-- A sum of multiples of differences. -/
def lsum : List (PS × PS × PS) → PS
  | [] => pzero
  | [x] => pmul x.1 (padd x.2.1 (psmul (-1) x.2.2))
  | x :: l => padd (pmul x.1 (padd x.2.1 (psmul (-1) x.2.2))) (lsum l)
def lall (p : Int) : List (PS × PS × PS) → Prop
  | [] => True
  | x :: l => Eqp p x.2.1 x.2.2 ∧ lall p l
theorem lsum_zero {p : Int} : ∀ l : List (PS × PS × PS), lall p l → Eqp p (lsum l) pzero
  | [], _ => Eqp.refl _
  | [x], h => Eqp.mul_zero _ h.1.psub_zero
  | x :: y :: l, h => Eqp.add_zero (Eqp.mul_zero _ h.1.psub_zero) (lsum_zero (y :: l) h.2)
theorem Eqp.linl {p : Int} (A B : PS) (l : List (PS × PS × PS)) (h : lall p l) (e : padd A (psmul (-1) B) = lsum l) : Eqp p A B := Eqp.of_psub (e ▸ lsum_zero l h)

theorem Dv.trans {p : Int} {d e a : PS} (h : Dv p d e) (k : Dv p e a) : Dv p d a := by
  obtain ⟨q, N, hq, eq⟩ := h
  obtain ⟨r, M, hr, er⟩ := k
  exact ⟨pmul r q, _, hr.pmul hq, er.trans ((Eqp.mul (Eqp.refl r) eq).trans (Eqp.of_eq (pmul_assoc _ _ _).symm))⟩
/-- An exact division. -/
theorem quot_eq {p : Int} (hp : Pr p) {a b : List Int} (ha : Po p a) (hb : Po p b) (hne : b ≠ []) {h : PS} {N : Nat} (hN : Fin0 h N) (e : Eqp p (cf a) (pmul h (cf b))) : (divp p a b).2 = [] ∧ Eqp p (cf (divp p a b).1) h := by
  have hp2 := hp.pos
  have e1 : divp p a b = (low p N h, []) := by
    refine divp_eq hp ha hb hne (low_Po (by omega) _ _) (Po_nil (by omega)) (List.length_pos_iff.2 hne) ?_
    rw [cf_nil_zero, padd_pzero]
    exact e.trans (Eqp.mul (low_eqp hN).symm (Eqp.refl _))
  rw [e1]; exact ⟨rfl, low_eqp hN⟩
theorem cancel {p : Int} (hp : Pr p) {d : List Int} (hd : Po p d) (hne : d ≠ []) {f g : PS} {N M : Nat} (hf : Fin0 f N) (hg : Fin0 g M) (h : Eqp p (pmul f (cf d)) (pmul g (cf d))) : Eqp p f g := by
  have hp2 := hp.pos
  have h1 := quot_eq hp (mulp_Po (by omega) (low p N f) d) hd hne hf ((mulp_eqp p _ _).trans (Eqp.mul (low_eqp hf) (Eqp.refl _)))
  have h2 := quot_eq hp (mulp_Po (by omega) (low p N f) d) hd hne hg ((mulp_eqp p _ _).trans ((Eqp.mul (low_eqp hf) (Eqp.refl _)).trans h))
  exact h1.2.symm.trans h2.2
/-- The leading coefficient of a product. -/
theorem mulp_top {p : Int} (hp : Pr p) {a b : List Int} (ha : Po p a) (hb : Po p b) (h1 : a ≠ []) (h2 : b ≠ []) : cf (mulp p a b) ((mulp p a b).length - 1) = cf a (a.length - 1) * cf b (b.length - 1) % p := by
  have l1 : 0 < a.length := List.length_pos_iff.2 h1
  have l2 : 0 < b.length := List.length_pos_iff.2 h2
  have hl := mulp_length hp ha hb h1 h2
  rw [show (mulp p a b).length - 1 = a.length - 1 + (b.length - 1) by omega, mulp_cf, top_mul (fun i hi => cf_ge a i (by omega)) (fun i hi => cf_ge b i (by omega))]
theorem mulp_monic {p : Int} (hp : Pr p) {a b : List Int} (ha : Po p a) (hb : Po p b) (h1 : a ≠ []) (h2 : b ≠ []) (m1 : cf a (a.length - 1) = 1) (m2 : cf b (b.length - 1) = 1) : cf (mulp p a b) ((mulp p a b).length - 1) = 1 := by
  have hp2 := hp.pos
  rw [mulp_top hp ha hb h1 h2, m1, m2]
  exact Int.emod_eq_of_lt (by omega) (by omega)

/-- What the program and the reference reckon. -/
def cR (p : Int) (w u : List Int) : List Int := mulp p w u
def cA (p : Int) (a1 a2 d : List Int) : List Int := (divp p (mulp p a1 a2) (mulp p d d)).1
def cN (p : Int) (ds a1 b1 a2 b2 r s t : List Int) : List Int := addp p (addp p (mulp p (mulp p r a1) b2) (mulp p (mulp p s a2) b1) 1) (mulp p t (addp p (mulp p b1 b2) ds 1)) 1
/-- The composition, not reduced. -/
def cmp (p : Int) (ds a1 b1 a2 b2 : List Int) : List Int × List Int :=
  let x := bez p a1 a2
  let y := bez p x.1 (addp p b1 b2 1)
  let A := cA p a1 a2 y.1
  (A, rst p (divp p (cN p ds a1 b1 a2 b2 (mulp p y.2.1 x.2.1) (mulp p y.2.1 x.2.2) y.2.2) y.1).1 A)

/-- What is known of the parts. -/
structure Cmp (p : Int) (ds a1 b1 a2 b2 u v w t r s o d sm N : List Int) (e1 e2 c1 c2 : PS) : Prop where
  fe1 : ∃ n, Fin0 e1 n
  fe2 : ∃ n, Fin0 e2 n
  fc1 : ∃ n, Fin0 c1 n
  fc2 : ∃ n, Fin0 c2 n
  ho : Eqp p (cf o) (padd (pmul (cf u) (cf a1)) (pmul (cf v) (cf a2)))
  hdo : Eqp p (cf d) (padd (pmul (cf w) (cf o)) (pmul (cf t) (cf sm)))
  hs : Eqp p (cf sm) (padd (cf b1) (cf b2))
  hr : Eqp p (cf r) (pmul (cf w) (cf u))
  hss : Eqp p (cf s) (pmul (cf w) (cf v))
  hN : Eqp p (cf N) (padd (padd (pmul (pmul (cf r) (cf a1)) (cf b2)) (pmul (pmul (cf s) (cf a2)) (cf b1))) (pmul (cf t) (padd (pmul (cf b1) (cf b2)) (cf ds))))
  ha1 : Eqp p (cf a1) (pmul e1 (cf d))
  ha2 : Eqp p (cf a2) (pmul e2 (cf d))
  h1 : Eqp p (padd (pmul (cf b1) (cf b1)) (psmul (-1) (cf ds))) (pmul c1 (cf a1))
  h2 : Eqp p (padd (pmul (cf b2) (cf b2)) (psmul (-1) (cf ds))) (pmul c2 (cf a2))
theorem Cmp.hd {p : Int} {ds a1 b1 a2 b2 u v w t r s o d sm N : List Int} {e1 e2 c1 c2 : PS} (h : Cmp p ds a1 b1 a2 b2 u v w t r s o d sm N e1 e2 c1 c2) : Eqp p (cf d) (padd (padd (pmul (cf r) (cf a1)) (pmul (cf s) (cf a2))) (pmul (cf t) (padd (cf b1) (cf b2)))) :=
  (Eqp.linl (cf d) (padd (padd (pmul (cf r) (cf a1)) (pmul (cf s) (cf a2))) (pmul (cf t) (padd (cf b1) (cf b2)))) [(pone, (cf d), (padd (pmul (cf w) (cf o)) (pmul (cf t) (cf sm)))), ((cf w), (cf o), (padd (pmul (cf u) (cf a1)) (pmul (cf v) (cf a2)))), ((cf t), (cf sm), (padd (cf b1) (cf b2))), ((psmul (-1) (cf a1)), (cf r), (pmul (cf w) (cf u))), ((psmul (-1) (cf a2)), (cf s), (pmul (cf w) (cf v)))] ⟨h.hdo, h.ho, h.hs, h.hr, h.hss, trivial⟩ (RE.same [(cf a1), (cf a2), (cf b1), (cf b2), (cf ds), (cf u), (cf v), (cf w), (cf t), (cf r), (cf s), (cf o), (cf d), (cf sm), (cf N), e1, e2, c1, c2] ((.v 12) + -((((.v 9) * (.v 0)) + ((.v 10) * (.v 1))) + ((.v 8) * ((.v 2) + (.v 3))))) ((.one * ((.v 12) + -(((.v 7) * (.v 11)) + ((.v 8) * (.v 13))))) + (((.v 7) * ((.v 11) + -(((.v 5) * (.v 0)) + ((.v 6) * (.v 1))))) + (((.v 8) * ((.v 13) + -((.v 2) + (.v 3)))) + (((-(.v 0)) * ((.v 9) + -((.v 7) * (.v 5)))) + ((-(.v 1)) * ((.v 10) + -((.v 7) * (.v 6)))))))) (by decide +kernel) rfl rfl))
theorem Cmp.n1 {p : Int} {ds a1 b1 a2 b2 u v w t r s o d sm N : List Int} {e1 e2 c1 c2 : PS} (h : Cmp p ds a1 b1 a2 b2 u v w t r s o d sm N e1 e2 c1 c2) : Eqp p (cf N) (pmul (padd (cf b1) (pmul e1 (padd (pmul (cf r) (padd (cf b2) (psmul (-1) (cf b1)))) (psmul (-1) (pmul (cf t) c1))))) (cf d)) :=
  (Eqp.linl (cf N) (pmul (padd (cf b1) (pmul e1 (padd (pmul (cf r) (padd (cf b2) (psmul (-1) (cf b1)))) (psmul (-1) (pmul (cf t) c1))))) (cf d)) [(pone, (cf N), (padd (padd (pmul (pmul (cf r) (cf a1)) (cf b2)) (pmul (pmul (cf s) (cf a2)) (cf b1))) (pmul (cf t) (padd (pmul (cf b1) (cf b2)) (cf ds))))), ((psmul (-1) (cf b1)), (cf d), (padd (padd (pmul (cf r) (cf a1)) (pmul (cf s) (cf a2))) (pmul (cf t) (padd (cf b1) (cf b2))))), ((padd (pmul (cf r) (padd (cf b2) (psmul (-1) (cf b1)))) (psmul (-1) (pmul (cf t) c1))), (cf a1), (pmul e1 (cf d))), ((psmul (-1) (cf t)), (padd (pmul (cf b1) (cf b1)) (psmul (-1) (cf ds))), (pmul c1 (cf a1)))] ⟨h.hN, h.hd, h.ha1, h.h1, trivial⟩ (RE.same [(cf a1), (cf a2), (cf b1), (cf b2), (cf ds), (cf u), (cf v), (cf w), (cf t), (cf r), (cf s), (cf o), (cf d), (cf sm), (cf N), e1, e2, c1, c2] ((.v 14) + -(((.v 2) + ((.v 15) * (((.v 9) * ((.v 3) + -(.v 2))) + -((.v 8) * (.v 17))))) * (.v 12))) ((.one * ((.v 14) + -(((((.v 9) * (.v 0)) * (.v 3)) + (((.v 10) * (.v 1)) * (.v 2))) + ((.v 8) * (((.v 2) * (.v 3)) + (.v 4)))))) + (((-(.v 2)) * ((.v 12) + -((((.v 9) * (.v 0)) + ((.v 10) * (.v 1))) + ((.v 8) * ((.v 2) + (.v 3)))))) + (((((.v 9) * ((.v 3) + -(.v 2))) + -((.v 8) * (.v 17))) * ((.v 0) + -((.v 15) * (.v 12)))) + ((-(.v 8)) * ((((.v 2) * (.v 2)) + -(.v 4)) + -((.v 17) * (.v 0))))))) (by decide +kernel) rfl rfl))
theorem Cmp.n2 {p : Int} {ds a1 b1 a2 b2 u v w t r s o d sm N : List Int} {e1 e2 c1 c2 : PS} (h : Cmp p ds a1 b1 a2 b2 u v w t r s o d sm N e1 e2 c1 c2) : Eqp p (cf N) (pmul (padd (cf b2) (pmul e2 (padd (pmul (cf s) (padd (cf b1) (psmul (-1) (cf b2)))) (psmul (-1) (pmul (cf t) c2))))) (cf d)) :=
  (Eqp.linl (cf N) (pmul (padd (cf b2) (pmul e2 (padd (pmul (cf s) (padd (cf b1) (psmul (-1) (cf b2)))) (psmul (-1) (pmul (cf t) c2))))) (cf d)) [(pone, (cf N), (padd (padd (pmul (pmul (cf r) (cf a1)) (cf b2)) (pmul (pmul (cf s) (cf a2)) (cf b1))) (pmul (cf t) (padd (pmul (cf b1) (cf b2)) (cf ds))))), ((psmul (-1) (cf b2)), (cf d), (padd (padd (pmul (cf r) (cf a1)) (pmul (cf s) (cf a2))) (pmul (cf t) (padd (cf b1) (cf b2))))), ((padd (pmul (cf s) (padd (cf b1) (psmul (-1) (cf b2)))) (psmul (-1) (pmul (cf t) c2))), (cf a2), (pmul e2 (cf d))), ((psmul (-1) (cf t)), (padd (pmul (cf b2) (cf b2)) (psmul (-1) (cf ds))), (pmul c2 (cf a2)))] ⟨h.hN, h.hd, h.ha2, h.h2, trivial⟩ (RE.same [(cf a1), (cf a2), (cf b1), (cf b2), (cf ds), (cf u), (cf v), (cf w), (cf t), (cf r), (cf s), (cf o), (cf d), (cf sm), (cf N), e1, e2, c1, c2] ((.v 14) + -(((.v 3) + ((.v 16) * (((.v 10) * ((.v 2) + -(.v 3))) + -((.v 8) * (.v 18))))) * (.v 12))) ((.one * ((.v 14) + -(((((.v 9) * (.v 0)) * (.v 3)) + (((.v 10) * (.v 1)) * (.v 2))) + ((.v 8) * (((.v 2) * (.v 3)) + (.v 4)))))) + (((-(.v 3)) * ((.v 12) + -((((.v 9) * (.v 0)) + ((.v 10) * (.v 1))) + ((.v 8) * ((.v 2) + (.v 3)))))) + (((((.v 10) * ((.v 2) + -(.v 3))) + -((.v 8) * (.v 18))) * ((.v 1) + -((.v 16) * (.v 12)))) + ((-(.v 8)) * ((((.v 3) * (.v 3)) + -(.v 4)) + -((.v 18) * (.v 1))))))) (by decide +kernel) rfl rfl))
theorem Cmp.n3 {p : Int} {ds a1 b1 a2 b2 u v w t r s o d sm N : List Int} {e1 e2 c1 c2 : PS} (h : Cmp p ds a1 b1 a2 b2 u v w t r s o d sm N e1 e2 c1 c2) {B : List Int} (hB : Eqp p (pmul (cf B) (cf d)) (cf N)) : Eqp p (pmul (padd (pmul (cf B) (padd (cf b1) (cf b2))) (psmul (-1) (padd (pmul (cf b1) (cf b2)) (cf ds)))) (cf d)) (pmul (pmul (pmul (cf d) (pmul e1 e2)) (padd (pmul (cf r) c2) (pmul (cf s) c1))) (cf d)) :=
  (Eqp.linl (pmul (padd (pmul (cf B) (padd (cf b1) (cf b2))) (psmul (-1) (padd (pmul (cf b1) (cf b2)) (cf ds)))) (cf d)) (pmul (pmul (pmul (cf d) (pmul e1 e2)) (padd (pmul (cf r) c2) (pmul (cf s) c1))) (cf d)) [((padd (cf b1) (cf b2)), (pmul (cf B) (cf d)), (cf N)), ((padd (cf b1) (cf b2)), (cf N), (padd (padd (pmul (pmul (cf r) (cf a1)) (cf b2)) (pmul (pmul (cf s) (cf a2)) (cf b1))) (pmul (cf t) (padd (pmul (cf b1) (cf b2)) (cf ds))))), ((psmul (-1) (padd (pmul (cf b1) (cf b2)) (cf ds))), (cf d), (padd (padd (pmul (cf r) (cf a1)) (pmul (cf s) (cf a2))) (pmul (cf t) (padd (cf b1) (cf b2))))), ((pmul (cf r) (cf a1)), (padd (pmul (cf b2) (cf b2)) (psmul (-1) (cf ds))), (pmul c2 (cf a2))), ((pmul (cf s) (cf a2)), (padd (pmul (cf b1) (cf b1)) (psmul (-1) (cf ds))), (pmul c1 (cf a1))), ((pmul (cf a2) (padd (pmul (cf r) c2) (pmul (cf s) c1))), (cf a1), (pmul e1 (cf d))), ((pmul (pmul e1 (cf d)) (padd (pmul (cf r) c2) (pmul (cf s) c1))), (cf a2), (pmul e2 (cf d)))] ⟨hB, h.hN, h.hd, h.h2, h.h1, h.ha1, h.ha2, trivial⟩ (RE.same [(cf a1), (cf a2), (cf b1), (cf b2), (cf ds), (cf u), (cf v), (cf w), (cf t), (cf r), (cf s), (cf o), (cf d), (cf sm), (cf N), e1, e2, c1, c2, (cf B)] (((((.v 19) * ((.v 2) + (.v 3))) + -(((.v 2) * (.v 3)) + (.v 4))) * (.v 12)) + -((((.v 12) * ((.v 15) * (.v 16))) * (((.v 9) * (.v 18)) + ((.v 10) * (.v 17)))) * (.v 12))) ((((.v 2) + (.v 3)) * (((.v 19) * (.v 12)) + -(.v 14))) + ((((.v 2) + (.v 3)) * ((.v 14) + -(((((.v 9) * (.v 0)) * (.v 3)) + (((.v 10) * (.v 1)) * (.v 2))) + ((.v 8) * (((.v 2) * (.v 3)) + (.v 4)))))) + (((-(((.v 2) * (.v 3)) + (.v 4))) * ((.v 12) + -((((.v 9) * (.v 0)) + ((.v 10) * (.v 1))) + ((.v 8) * ((.v 2) + (.v 3)))))) + ((((.v 9) * (.v 0)) * ((((.v 3) * (.v 3)) + -(.v 4)) + -((.v 18) * (.v 1)))) + ((((.v 10) * (.v 1)) * ((((.v 2) * (.v 2)) + -(.v 4)) + -((.v 17) * (.v 0)))) + ((((.v 1) * (((.v 9) * (.v 18)) + ((.v 10) * (.v 17)))) * ((.v 0) + -((.v 15) * (.v 12)))) + ((((.v 15) * (.v 12)) * (((.v 9) * (.v 18)) + ((.v 10) * (.v 17)))) * ((.v 1) + -((.v 16) * (.v 12)))))))))) (by decide +kernel) rfl rfl))
theorem Cmp.n4 {p : Int} {ds b1 b2 r s t d B A : List Int} {e1 e2 c1 c2 : PS} (k1 : Eqp p (cf B) (padd (cf b1) (pmul e1 (padd (pmul (cf r) (padd (cf b2) (psmul (-1) (cf b1)))) (psmul (-1) (pmul (cf t) c1)))))) (k2 : Eqp p (cf B) (padd (cf b2) (pmul e2 (padd (pmul (cf s) (padd (cf b1) (psmul (-1) (cf b2)))) (psmul (-1) (pmul (cf t) c2)))))) (k3 : Eqp p (padd (pmul (cf B) (padd (cf b1) (cf b2))) (psmul (-1) (padd (pmul (cf b1) (cf b2)) (cf ds)))) (pmul (pmul (cf d) (pmul e1 e2)) (padd (pmul (cf r) c2) (pmul (cf s) c1)))) (kA : Eqp p (cf A) (pmul e1 e2)) : Eqp p (padd (pmul (cf B) (cf B)) (psmul (-1) (cf ds))) (pmul (padd (pmul (padd (pmul (cf r) (padd (cf b2) (psmul (-1) (cf b1)))) (psmul (-1) (pmul (cf t) c1))) (padd (pmul (cf s) (padd (cf b1) (psmul (-1) (cf b2)))) (psmul (-1) (pmul (cf t) c2)))) (pmul (cf d) (padd (pmul (cf r) c2) (pmul (cf s) c1)))) (cf A)) :=
  (Eqp.linl (padd (pmul (cf B) (cf B)) (psmul (-1) (cf ds))) (pmul (padd (pmul (padd (pmul (cf r) (padd (cf b2) (psmul (-1) (cf b1)))) (psmul (-1) (pmul (cf t) c1))) (padd (pmul (cf s) (padd (cf b1) (psmul (-1) (cf b2)))) (psmul (-1) (pmul (cf t) c2)))) (pmul (cf d) (padd (pmul (cf r) c2) (pmul (cf s) c1)))) (cf A)) [((padd (cf B) (psmul (-1) (cf b2))), (cf B), (padd (cf b1) (pmul e1 (padd (pmul (cf r) (padd (cf b2) (psmul (-1) (cf b1)))) (psmul (-1) (pmul (cf t) c1)))))), ((pmul e1 (padd (pmul (cf r) (padd (cf b2) (psmul (-1) (cf b1)))) (psmul (-1) (pmul (cf t) c1)))), (cf B), (padd (cf b2) (pmul e2 (padd (pmul (cf s) (padd (cf b1) (psmul (-1) (cf b2)))) (psmul (-1) (pmul (cf t) c2)))))), (pone, (padd (pmul (cf B) (padd (cf b1) (cf b2))) (psmul (-1) (padd (pmul (cf b1) (cf b2)) (cf ds)))), (pmul (pmul (cf d) (pmul e1 e2)) (padd (pmul (cf r) c2) (pmul (cf s) c1)))), ((psmul (-1) (padd (pmul (padd (pmul (cf r) (padd (cf b2) (psmul (-1) (cf b1)))) (psmul (-1) (pmul (cf t) c1))) (padd (pmul (cf s) (padd (cf b1) (psmul (-1) (cf b2)))) (psmul (-1) (pmul (cf t) c2)))) (pmul (cf d) (padd (pmul (cf r) c2) (pmul (cf s) c1))))), (cf A), (pmul e1 e2))] ⟨k1, k2, k3, kA, trivial⟩ (RE.same [(cf b1), (cf b2), (cf ds), (cf t), (cf r), (cf s), (cf d), e1, e2, c1, c2, (cf B), (cf A)] ((((.v 11) * (.v 11)) + -(.v 2)) + -((((((.v 4) * ((.v 1) + -(.v 0))) + -((.v 3) * (.v 9))) * (((.v 5) * ((.v 0) + -(.v 1))) + -((.v 3) * (.v 10)))) + ((.v 6) * (((.v 4) * (.v 10)) + ((.v 5) * (.v 9))))) * (.v 12))) ((((.v 11) + -(.v 1)) * ((.v 11) + -((.v 0) + ((.v 7) * (((.v 4) * ((.v 1) + -(.v 0))) + -((.v 3) * (.v 9))))))) + ((((.v 7) * (((.v 4) * ((.v 1) + -(.v 0))) + -((.v 3) * (.v 9)))) * ((.v 11) + -((.v 1) + ((.v 8) * (((.v 5) * ((.v 0) + -(.v 1))) + -((.v 3) * (.v 10))))))) + ((.one * ((((.v 11) * ((.v 0) + (.v 1))) + -(((.v 0) * (.v 1)) + (.v 2))) + -(((.v 6) * ((.v 7) * (.v 8))) * (((.v 4) * (.v 10)) + ((.v 5) * (.v 9)))))) + ((-(((((.v 4) * ((.v 1) + -(.v 0))) + -((.v 3) * (.v 9))) * (((.v 5) * ((.v 0) + -(.v 1))) + -((.v 3) * (.v 10)))) + ((.v 6) * (((.v 4) * (.v 10)) + ((.v 5) * (.v 9)))))) * ((.v 12) + -((.v 7) * (.v 8))))))) (by decide +kernel) rfl rfl))

theorem sqd_eqp (p : Int) (ds ys : List Int) : Eqp p (cf (sqd p ds ys)) (padd (pmul (cf ys) (cf ys)) (psmul (-1) (cf ds))) :=
  (addp_eqp p _ _ _).trans (Eqp.add (mulp_eqp p _ _) (Eqp.refl _))
/-- The square less the discriminant is a multiple. -/
theorem Rd.dv {p : Int} {ds xs ys : List Int} (h : Rd p ds xs ys) : ∃ (c : PS) (n : Nat), Fin0 c n ∧ Eqp p (padd (pmul (cf ys) (cf ys)) (psmul (-1) (cf ds))) (pmul c (cf xs)) := by
  obtain ⟨c, n, hc, e⟩ := cg_of_rst_nil h.pr h.sP h.xP h.ne h.frm.2.2.2
  exact ⟨c, n, hc, (sqd_eqp p ds ys).symm.trans (e.trans (Eqp.of_eq (pzero_padd _)))⟩
/-- The composition is a form. -/
theorem cmp_Rd {p : Int} {ds a1 b1 a2 b2 : List Int} (hf : Rd p ds a1 b1) (hg : Rd p ds a2 b2) (l1 : a1.length ≤ 3) (l2 : a2.length ≤ 3) : Rd p ds (cmp p ds a1 b1 a2 b2).1 (cmp p ds a1 b1 a2 b2).2 := by
  have hp := hf.pr
  have hp2 := hp.pos
  have k1 := bez_ok hp hf.xP hg.xP (Or.inl hf.ne)
  have hs := addp_eqp p b1 b2 1
  have hsP := addp_Po (p := p) (by omega) b1 b2 1
  unfold cmp
  generalize bez p a1 a2 = x at *
  obtain ⟨o, u, v⟩ := x
  have k2 := bez_ok hp k1.pd hsP (Or.inl k1.ne)
  simp only at *
  generalize addp p b1 b2 1 = sm at *
  generalize bez p o sm = y at *
  obtain ⟨d, w, t⟩ := y
  simp only at *
  obtain ⟨e1, n1, f1, E1⟩ := k2.da.trans k1.da
  obtain ⟨e2, n2, f2, E2⟩ := k2.da.trans k1.db
  obtain ⟨c1, m1, g1, C1⟩ := hf.dv
  obtain ⟨c2, m2, g2, C2⟩ := hg.dv
  have hNP : Po p (cN p ds a1 b1 a2 b2 (mulp p w u) (mulp p w v) t) := addp_Po (by omega) _ _ _
  have hNe : Eqp p (cf (cN p ds a1 b1 a2 b2 (mulp p w u) (mulp p w v) t)) _ := (addp_eqp p _ _ 1).trans (Eqp.add ((addp_eqp p _ _ 1).trans (Eqp.add ((mulp_eqp p _ _).trans (Eqp.mul (mulp_eqp p _ _) (Eqp.refl _))) (Eqp.smul ((mulp_eqp p _ _).trans (Eqp.mul (mulp_eqp p _ _) (Eqp.refl _))))))
    (Eqp.smul ((mulp_eqp p _ _).trans (Eqp.mul (Eqp.refl _) ((addp_eqp p _ _ 1).trans (Eqp.add (mulp_eqp p _ _) (Eqp.refl _)))))))
  simp only [psmul_one] at hNe hs
  have hr := mulp_eqp p w u
  have hv := mulp_eqp p w v
  generalize cN p ds a1 b1 a2 b2 (mulp p w u) (mulp p w v) t = N at *
  generalize mulp p w u = r at *
  generalize mulp p w v = s at *
  have H : Cmp p ds a1 b1 a2 b2 u v w t r s o d sm N e1 e2 c1 c2 := ⟨⟨_, f1⟩, ⟨_, f2⟩, ⟨_, g1⟩, ⟨_, g2⟩, k1.id, k2.id, hs, hr, hv, hNe, E1, E2, C1, C2⟩
  have fX : ∃ n, Fin0 (padd (pmul (cf r) (padd (cf b2) (psmul (-1) (cf b1)))) (psmul (-1) (pmul (cf t) c1))) n := ⟨_, ((cf_Fin0 r).pmul ((cf_Fin0 b2).padd ((cf_Fin0 b1).psmul _))).padd (((cf_Fin0 t).pmul g1).psmul _)⟩
  have fY : ∃ n, Fin0 (padd (pmul (cf s) (padd (cf b1) (psmul (-1) (cf b2)))) (psmul (-1) (pmul (cf t) c2))) n := ⟨_, ((cf_Fin0 s).pmul ((cf_Fin0 b1).padd ((cf_Fin0 b2).psmul _))).padd (((cf_Fin0 t).pmul g2).psmul _)⟩
  obtain ⟨nX, fX⟩ := fX
  obtain ⟨nY, fY⟩ := fY
  have q1 := quot_eq hp hNP k2.pd k2.ne ((cf_Fin0 b1).padd (f1.pmul fX)) H.n1
  have q2 := quot_eq hp hNP k2.pd k2.ne ((cf_Fin0 b2).padd (f2.pmul fY)) H.n2
  have hBP := (divp_Po hp hNP k2.pd k2.ne).1
  have hBd : Eqp p (pmul (cf (divp p N d).1) (cf d)) (cf N) := (Eqp.mul q1.2 (Eqp.refl _)).trans H.n1.symm
  have q3 := cancel hp k2.pd k2.ne (((cf_Fin0 (divp p N d).1).pmul ((cf_Fin0 b1).padd (cf_Fin0 b2))).padd ((((cf_Fin0 b1).pmul (cf_Fin0 b2)).padd (cf_Fin0 ds)).psmul (-1))) (((cf_Fin0 d).pmul (f1.pmul f2)).pmul (((cf_Fin0 r).pmul g2).padd ((cf_Fin0 s).pmul g1))) (H.n3 hBd)
  -- the first list
  have hddP := mulp_Po (p := p) (by omega) d d
  have hdd := mulp_length hp k2.pd k2.pd k2.ne k2.ne
  have hddn : mulp p d d ≠ [] := fun e => by have := List.length_pos_iff.2 k2.ne; rw [e] at hdd; simp at hdd; omega
  have haP := mulp_Po (p := p) (by omega) a1 a2
  have hal := mulp_length hp hf.xP hg.xP hf.ne hg.ne
  have eA : Eqp p (cf (mulp p a1 a2)) (pmul (pmul e1 e2) (cf (mulp p d d))) := by
    refine (mulp_eqp p _ _).trans ((Eqp.mul E1 E2).trans ((Eqp.of_eq ?_).trans (Eqp.mul (Eqp.refl _) (mulp_eqp p d d).symm)))
    exact (RE.same [cf d, e1, e2] (((.v 1) * (.v 0)) * ((.v 2) * (.v 0))) (((.v 1) * (.v 2)) * ((.v 0) * (.v 0))) (by decide +kernel) rfl rfl)
  have qA := quot_eq hp haP hddP hddn (f1.pmul f2) eA
  have hAP := (divp_Po hp haP hddP hddn).1
  have hAm : mulp p (divp p (mulp p a1 a2) (mulp p d d)).1 (mulp p d d) = mulp p a1 a2 := (mulp_Po (by omega) _ _).eq_of_eqp haP ((mulp_eqp p _ _).trans ((Eqp.mul qA.2 (Eqp.refl _)).trans eA.symm))
  have hla := List.length_pos_iff.2 hf.ne
  have hlb := List.length_pos_iff.2 hg.ne
  show Rd p ds (divp p (mulp p a1 a2) (mulp p d d)).1 (rst p (divp p N d).1 (divp p (mulp p a1 a2) (mulp p d d)).1)
  generalize (divp p (mulp p a1 a2) (mulp p d d)).1 = A at *
  have hAn : A ≠ [] := fun e => by rw [e, mulp_nil] at hAm; rw [← hAm] at hal; simp at hal; omega
  have hAl := mulp_length hp hAP hddP hAn hddn
  have hAt := mulp_top hp hAP hddP hAn hddn
  rw [mulp_monic hp k2.pd k2.pd k2.ne k2.ne k2.one k2.one, hAm, mulp_monic hp hf.xP hg.xP hf.ne hg.ne hf.frm.1 hg.frm.1, Int.mul_one] at hAt
  have hA1 : cf A (A.length - 1) = 1 := by rw [hAt]; exact (Int.emod_eq_of_lt (hAP.md _).1 (hAP.md _).2).symm
  have hcong : Cg p (cf A) (cf (sqd p ds (divp p N d).1)) pzero := by
    refine (Cg.of_eqp ((sqd_eqp p ds _).trans (Cmp.n4 q1.2 q2.2 q3 qA.2))).trans (Cg.of_mul ((fX.pmul fY).padd ((cf_Fin0 d).pmul (((cf_Fin0 r).pmul g2).padd ((cf_Fin0 s).pmul g1)))))
  refine ⟨hp, hf.dP, hf.dl, hAP, rst_Po hp hBP hAP hAn, hA1, ?_, rst_lt hp hBP hAP hAn, ?_⟩
  · rw [hAm] at hAl; have hd0 := List.length_pos_iff.2 k2.ne; omega
  · exact rst_nil_of_cg hp (addp_Po (by omega) _ _ _) hAP hAn ((sqd_cg hp (rst_cg hp hBP hAP hAn).symm).trans hcong)
end Go.Proofs.Ytohgjihccjnheab

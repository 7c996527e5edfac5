/- Classes of forms. No program in sight. -/
import Derived.Test.YtohgjihccjnheabLenP
set_option linter.unusedVariables false
set_option linter.unusedSimpArgs false
namespace Go.Proofs.Ytohgjihccjnheab

def Fn (f : PS) : Prop := ∃ n, Fin0 f n
theorem Fn.add {f g : PS} (h : Fn f) (k : Fn g) : Fn (padd f g) := by obtain ⟨n, h⟩ := h; obtain ⟨m, k⟩ := k; exact ⟨_, h.padd k⟩
theorem Fn.mul {f g : PS} (h : Fn f) (k : Fn g) : Fn (pmul f g) := by obtain ⟨n, h⟩ := h; obtain ⟨m, k⟩ := k; exact ⟨_, h.pmul k⟩
theorem Fn.smul {f : PS} (c : Int) (h : Fn f) : Fn (psmul c f) := by obtain ⟨n, h⟩ := h; exact ⟨_, h.psmul c⟩
theorem Fn.cf (a : List Int) : Fn (cf a) := ⟨_, cf_Fin0 a⟩
theorem Fn.zero : Fn pzero := ⟨_, pzero_Fin0⟩
theorem Fn.one : Fn pone := ⟨1, fun i hi => by unfold pone; rw [if_neg (by omega)]⟩
/-- Finitely many coefficients: as a list. -/
theorem Fn.list {p : Int} (hp : Pr p) {f : PS} (h : Fn f) : ∃ l, Po p l ∧ Eqp p (Go.Proofs.Ytohgjihccjnheab.cf l) f ∧ (¬ Eqp p f pzero → l ≠ []) := by
  obtain ⟨n, h⟩ := h
  have e := low_eqp (p := p) h
  refine ⟨low p n f, low_Po (by have := hp.pos; omega) n f, e, fun hn hl => hn ?_⟩
  rw [hl, cf_nil_zero] at e
  exact e.symm
theorem fcancel {p : Int} (hp : Pr p) {d f g : PS} (hd : Fn d) (hn : ¬ Eqp p d pzero) (hf : Fn f) (hg : Fn g) (h : Eqp p (pmul d f) (pmul d g)) : Eqp p f g := by
  obtain ⟨l, h1, h2, h3⟩ := hd.list hp
  obtain ⟨n, hf⟩ := hf
  obtain ⟨m, hg⟩ := hg
  refine cancel hp h1 (h3 hn) hf hg ?_
  rw [pmul_comm f, pmul_comm g]
  exact (Eqp.mul h2 (Eqp.refl _)).trans (h.trans (Eqp.mul h2.symm (Eqp.refl _)))

/-- Numbers X + Y s with s s = D. -/
structure El where
  x : PS
  y : PS
  fx : Fn x
  fy : Fn y
structure EE (p : Int) (z w : El) : Prop where
  x : Eqp p z.x w.x
  y : Eqp p z.y w.y
theorem EE.refl {p : Int} (z : El) : EE p z z := ⟨Eqp.refl _, Eqp.refl _⟩
theorem EE.symm {p : Int} {z w : El} (h : EE p z w) : EE p w z := ⟨h.x.symm, h.y.symm⟩
theorem EE.trans {p : Int} {z w v : El} (h : EE p z w) (k : EE p w v) : EE p z v := ⟨h.x.trans k.x, h.y.trans k.y⟩
theorem EE.of_eq {p : Int} {z w : El} (h1 : z.x = w.x) (h2 : z.y = w.y) : EE p z w := ⟨Eqp.of_eq h1, Eqp.of_eq h2⟩
def El.add (z w : El) : El := ⟨padd z.x w.x, padd z.y w.y, z.fx.add w.fx, z.fy.add w.fy⟩
def El.mul (ds : List Int) (z w : El) : El := ⟨padd (pmul z.x w.x) (pmul (cf ds) (pmul z.y w.y)), padd (pmul z.x w.y) (pmul z.y w.x), (z.fx.mul w.fx).add ((Fn.cf ds).mul (z.fy.mul w.fy)), (z.fx.mul w.fy).add (z.fy.mul w.fx)⟩
def El.cj (z : El) : El := ⟨z.x, psmul (-1) z.y, z.fx, z.fy.smul _⟩
def El.zero : El := ⟨pzero, pzero, Fn.zero, Fn.zero⟩
/-- A polynomial. -/
def El.of (f : PS) (h : Fn f) : El := ⟨f, pzero, h, Fn.zero⟩
theorem EE.add {p : Int} {z w z' w' : El} (h : EE p z z') (k : EE p w w') : EE p (z.add w) (z'.add w') := ⟨h.x.add k.x, h.y.add k.y⟩
theorem EE.mul {p : Int} {ds : List Int} {z w z' w' : El} (h : EE p z z') (k : EE p w w') : EE p (El.mul ds z w) (El.mul ds z' w') :=
  ⟨(h.x.mul k.x).add ((Eqp.refl _).mul (h.y.mul k.y)), (h.x.mul k.y).add (h.y.mul k.x)⟩
theorem El.comm (p : Int) (ds : List Int) (z w : El) : EE p (El.mul ds z w) (El.mul ds w z) := .of_eq (RE.same [(cf ds), z.x, z.y, w.x, w.y] (((.v 1) * (.v 3)) + ((.v 0) * ((.v 2) * (.v 4)))) (((.v 3) * (.v 1)) + ((.v 0) * ((.v 4) * (.v 2)))) (by decide +kernel) rfl rfl) (RE.same [z.x, z.y, w.x, w.y] (((.v 0) * (.v 3)) + ((.v 1) * (.v 2))) (((.v 2) * (.v 1)) + ((.v 3) * (.v 0))) (by decide +kernel) rfl rfl)
theorem El.assoc (p : Int) (ds : List Int) (z w v : El) : EE p (El.mul ds (El.mul ds z w) v) (El.mul ds z (El.mul ds w v)) := .of_eq (RE.same [(cf ds), z.x, z.y, w.x, w.y, v.x, v.y] (((((.v 1) * (.v 3)) + ((.v 0) * ((.v 2) * (.v 4)))) * (.v 5)) + ((.v 0) * ((((.v 1) * (.v 4)) + ((.v 2) * (.v 3))) * (.v 6)))) (((.v 1) * (((.v 3) * (.v 5)) + ((.v 0) * ((.v 4) * (.v 6))))) + ((.v 0) * ((.v 2) * (((.v 3) * (.v 6)) + ((.v 4) * (.v 5)))))) (by decide +kernel) rfl rfl) (RE.same [(cf ds), z.x, z.y, w.x, w.y, v.x, v.y] (((((.v 1) * (.v 3)) + ((.v 0) * ((.v 2) * (.v 4)))) * (.v 6)) + ((((.v 1) * (.v 4)) + ((.v 2) * (.v 3))) * (.v 5))) (((.v 1) * (((.v 3) * (.v 6)) + ((.v 4) * (.v 5)))) + ((.v 2) * (((.v 3) * (.v 5)) + ((.v 0) * ((.v 4) * (.v 6)))))) (by decide +kernel) rfl rfl)
theorem El.mul_add (p : Int) (ds : List Int) (z w v : El) : EE p (El.mul ds z (w.add v)) ((El.mul ds z w).add (El.mul ds z v)) := .of_eq (RE.same [(cf ds), z.x, z.y, w.x, w.y, v.x, v.y] (((.v 1) * ((.v 3) + (.v 5))) + ((.v 0) * ((.v 2) * ((.v 4) + (.v 6))))) ((((.v 1) * (.v 3)) + ((.v 0) * ((.v 2) * (.v 4)))) + (((.v 1) * (.v 5)) + ((.v 0) * ((.v 2) * (.v 6))))) (by decide +kernel) rfl rfl) (RE.same [z.x, z.y, w.x, w.y, v.x, v.y] (((.v 0) * ((.v 3) + (.v 5))) + ((.v 1) * ((.v 2) + (.v 4)))) ((((.v 0) * (.v 3)) + ((.v 1) * (.v 2))) + (((.v 0) * (.v 5)) + ((.v 1) * (.v 4)))) (by decide +kernel) rfl rfl)
theorem El.left_comm (p : Int) (ds : List Int) (z w v : El) : EE p (El.mul ds z (El.mul ds w v)) (El.mul ds w (El.mul ds z v)) :=
  (El.assoc p ds z w v).symm.trans ((EE.mul (El.comm p ds z w) (.refl v)).trans (El.assoc p ds w z v))
theorem El.mul_zero (p : Int) (ds : List Int) (z : El) : EE p (El.mul ds z El.zero) El.zero :=
  .of_eq (by show padd (pmul z.x pzero) (pmul (cf ds) (pmul z.y pzero)) = pzero; rw [pmul_pzero, pmul_pzero, pmul_pzero, padd_pzero]) (by show padd (pmul z.x pzero) (pmul z.y pzero) = pzero; rw [pmul_pzero, pmul_pzero, padd_pzero])

/-- The norm is not 0. -/
theorem norm_ne {p : Int} (hp : Pr p) {ds : List Int} (hd : Po p ds) (h2 : ds.length % 2 = 0) (h0 : 0 < ds.length) (z : El) (hz : ¬ EE p z El.zero) : ¬ Eqp p (padd (pmul z.x z.x) (psmul (-1) (pmul (cf ds) (pmul z.y z.y)))) pzero := by
  have hp2 := hp.pos
  obtain ⟨l, l1, l2, _⟩ := z.fx.list hp
  obtain ⟨m, m1, m2, _⟩ := z.fy.list hp
  intro h
  have hdn : ds ≠ [] := List.length_pos_iff.1 h0
  have e : Eqp p (cf (addp p (mulp p l l) (mulp p ds (mulp p m m)) (-1))) pzero := by
    refine (addp_eqp p _ _ _).trans (Eqp.trans ?_ h)
    exact Eqp.add ((mulp_eqp p l l).trans (Eqp.mul l2 l2)) (Eqp.smul ((mulp_eqp p _ _).trans (Eqp.mul (Eqp.refl _) ((mulp_eqp p m m).trans (Eqp.mul m2 m2)))))
  have e0 : addp p (mulp p l l) (mulp p ds (mulp p m m)) (-1) = [] := (addp_Po (by omega) _ _ _).eq_of_eqp (Po_nil (by omega)) (by rw [cf_nil_zero]; exact e)
  have hl := sq_length hp l1
  have hm := sq_length hp m1
  have hmP := mulp_Po (p := p) (by omega) m m
  have hdm : (m = [] ∧ (mulp p ds (mulp p m m)).length = 0) ∨ (0 < m.length ∧ (mulp p ds (mulp p m m)).length + 2 = ds.length + 2 * m.length) := by
    rcases hm with ⟨a, b⟩ | ⟨a, b⟩
    · left; refine ⟨a, ?_⟩; rw [List.length_eq_zero_iff.1 b, mulp_nil_right]; rfl
    · right
      have := mulp_length hp hd hmP hdn (fun e => by rw [e] at b; simp at b; omega)
      exact ⟨a, by omega⟩
  by_cases hq : (mulp p l l).length = (mulp p ds (mulp p m m)).length
  · rcases hl with ⟨a, b⟩ | ⟨a, b⟩
    · rcases hdm with ⟨a', b'⟩ | ⟨a', b'⟩
      · refine hz ⟨l2.symm.trans ?_, m2.symm.trans ?_⟩
        · rw [a, cf_nil_zero]; exact Eqp.refl _
        · rw [a', cf_nil_zero]; exact Eqp.refl _
      · omega
    · rcases hdm with ⟨a', b'⟩ | ⟨a', b'⟩ <;> omega
  · have := addp_len_ne hp (mulp_Po (p := p) (by omega) l l) (mulp_Po (p := p) (by omega) ds (mulp p m m)) hq
    rw [e0] at this
    simp at this
    omega
/-- What is known of the discriminant. -/
structure Dc (p : Int) (ds : List Int) : Prop where
  pr : Pr p
  po : Po p ds
  ev : ds.length % 2 = 0
  pos : 0 < ds.length
theorem Dc.cancel {p : Int} {ds : List Int} (H : Dc p ds) {u z w : El} (hu : ¬ EE p u El.zero) (h : EE p (El.mul ds u z) (El.mul ds u w)) : EE p z w := by
  have hn := norm_ne H.pr H.po H.ev H.pos u hu
  have fn : Fn (padd (pmul u.x u.x) (psmul (-1) (pmul (cf ds) (pmul u.y u.y)))) := (u.fx.mul u.fx).add (((Fn.cf ds).mul (u.fy.mul u.fy)).smul _)
  exact ⟨fcancel H.pr fn hn z.fx w.fx (Eqp.linl (pmul (padd (pmul u.x u.x) (psmul (-1) (pmul (cf ds) (pmul u.y u.y)))) z.x) (pmul (padd (pmul u.x u.x) (psmul (-1) (pmul (cf ds) (pmul u.y u.y)))) w.x) [(u.x, (padd (pmul u.x z.x) (pmul (cf ds) (pmul u.y z.y))), (padd (pmul u.x w.x) (pmul (cf ds) (pmul u.y w.y)))), ((psmul (-1) (pmul (cf ds) u.y)), (padd (pmul u.x z.y) (pmul u.y z.x)), (padd (pmul u.x w.y) (pmul u.y w.x)))] ⟨h.x, h.y, trivial⟩ (RE.same [(cf ds), z.x, z.y, w.x, w.y, u.x, u.y] (((((.v 5) * (.v 5)) + -((.v 0) * ((.v 6) * (.v 6)))) * (.v 1)) + -((((.v 5) * (.v 5)) + -((.v 0) * ((.v 6) * (.v 6)))) * (.v 3))) (((.v 5) * ((((.v 5) * (.v 1)) + ((.v 0) * ((.v 6) * (.v 2)))) + -(((.v 5) * (.v 3)) + ((.v 0) * ((.v 6) * (.v 4)))))) + ((-((.v 0) * (.v 6))) * ((((.v 5) * (.v 2)) + ((.v 6) * (.v 1))) + -(((.v 5) * (.v 4)) + ((.v 6) * (.v 3)))))) (by decide +kernel) rfl rfl)), fcancel H.pr fn hn z.fy w.fy (Eqp.linl (pmul (padd (pmul u.x u.x) (psmul (-1) (pmul (cf ds) (pmul u.y u.y)))) z.y) (pmul (padd (pmul u.x u.x) (psmul (-1) (pmul (cf ds) (pmul u.y u.y)))) w.y) [(u.x, (padd (pmul u.x z.y) (pmul u.y z.x)), (padd (pmul u.x w.y) (pmul u.y w.x))), ((psmul (-1) u.y), (padd (pmul u.x z.x) (pmul (cf ds) (pmul u.y z.y))), (padd (pmul u.x w.x) (pmul (cf ds) (pmul u.y w.y))))] ⟨h.y, h.x, trivial⟩ (RE.same [(cf ds), z.x, z.y, w.x, w.y, u.x, u.y] (((((.v 5) * (.v 5)) + -((.v 0) * ((.v 6) * (.v 6)))) * (.v 2)) + -((((.v 5) * (.v 5)) + -((.v 0) * ((.v 6) * (.v 6)))) * (.v 4))) (((.v 5) * ((((.v 5) * (.v 2)) + ((.v 6) * (.v 1))) + -(((.v 5) * (.v 4)) + ((.v 6) * (.v 3))))) + ((-(.v 6)) * ((((.v 5) * (.v 1)) + ((.v 0) * ((.v 6) * (.v 2)))) + -(((.v 5) * (.v 3)) + ((.v 0) * ((.v 6) * (.v 4))))))) (by decide +kernel) rfl rfl))⟩
theorem Dc.mul_ne {p : Int} {ds : List Int} (H : Dc p ds) {u z : El} (hu : ¬ EE p u El.zero) (hz : ¬ EE p z El.zero) : ¬ EE p (El.mul ds u z) El.zero := fun h =>
  hz (H.cancel hu (h.trans (El.mul_zero p ds u).symm))
theorem of_ne {p : Int} {f : PS} (h : Fn f) (hn : ¬ Eqp p f pzero) : ¬ EE p (El.of f h) El.zero := fun e => hn e.x

/-- The ideal of a form. -/
def Idl (p : Int) (a b : PS) (z : El) : Prop := ∃ q, Fn q ∧ Eqp p z.x (padd (pmul b z.y) (pmul q a))
theorem Idl.congr {p : Int} {a b : PS} {z w : El} (h : Idl p a b z) (e : EE p z w) : Idl p a b w := by
  obtain ⟨q, fq, hq⟩ := h
  exact ⟨q, fq, e.x.symm.trans (hq.trans (Eqp.add (Eqp.mul (Eqp.refl _) e.y) (Eqp.refl _)))⟩
theorem Idl.add {p : Int} {a b : PS} {z w : El} (h : Idl p a b z) (k : Idl p a b w) : Idl p a b (z.add w) := by
  obtain ⟨q, fq, hq⟩ := h
  obtain ⟨r, fr, hr⟩ := k
  exact ⟨padd q r, fq.add fr, (Eqp.linl (padd z.x w.x) (padd (pmul b (padd z.y w.y)) (pmul (padd q r) a)) [(pone, z.x, (padd (pmul b z.y) (pmul q a))), (pone, w.x, (padd (pmul b w.y) (pmul r a)))] ⟨hq, hr, trivial⟩ (RE.same [z.x, z.y, w.x, w.y, a, b, q, r] (((.v 0) + (.v 2)) + -(((.v 5) * ((.v 1) + (.v 3))) + (((.v 6) + (.v 7)) * (.v 4)))) ((.one * ((.v 0) + -(((.v 5) * (.v 1)) + ((.v 6) * (.v 4))))) + (.one * ((.v 2) + -(((.v 5) * (.v 3)) + ((.v 7) * (.v 4)))))) (by decide +kernel) rfl rfl))⟩
/-- What is known of a form: b b - D = c a. -/
structure Fm (p : Int) (ds : List Int) (a b c : PS) : Prop where
  fa : Fn a
  fb : Fn b
  fc : Fn c
  an : ¬ Eqp p a pzero
  e : Eqp p (padd (pmul b b) (psmul (-1) (cf ds))) (pmul c a)
theorem Idl.mul {p : Int} {ds : List Int} {a b c : PS} (F : Fm p ds a b c) {z : El} (h : Idl p a b z) (w : El) : Idl p a b (El.mul ds z w) := by
  obtain ⟨q, fq, hq⟩ := h
  exact ⟨padd (pmul q w.x) (psmul (-1) (pmul (padd (pmul c z.y) (pmul b q)) w.y)), (fq.mul w.fx).add ((((F.fc.mul z.fy).add (F.fb.mul fq)).mul w.fy).smul _), (Eqp.linl (padd (pmul z.x w.x) (pmul (cf ds) (pmul z.y w.y))) (padd (pmul b (padd (pmul z.x w.y) (pmul z.y w.x))) (pmul (padd (pmul q w.x) (psmul (-1) (pmul (padd (pmul c z.y) (pmul b q)) w.y))) a)) [((padd w.x (psmul (-1) (pmul b w.y))), z.x, (padd (pmul b z.y) (pmul q a))), ((psmul (-1) (pmul w.y z.y)), (padd (pmul b b) (psmul (-1) (cf ds))), (pmul c a))] ⟨hq, F.e, trivial⟩ (RE.same [(cf ds), z.x, z.y, w.x, w.y, a, b, c, q] ((((.v 1) * (.v 3)) + ((.v 0) * ((.v 2) * (.v 4)))) + -(((.v 6) * (((.v 1) * (.v 4)) + ((.v 2) * (.v 3)))) + ((((.v 8) * (.v 3)) + -((((.v 7) * (.v 2)) + ((.v 6) * (.v 8))) * (.v 4))) * (.v 5)))) ((((.v 3) + -((.v 6) * (.v 4))) * ((.v 1) + -(((.v 6) * (.v 2)) + ((.v 8) * (.v 5))))) + ((-((.v 4) * (.v 2))) * ((((.v 6) * (.v 6)) + -(.v 0)) + -((.v 7) * (.v 5))))) (by decide +kernel) rfl rfl))⟩
/-- A form's ideal times its conjugate's: multiples of a. -/
theorem Idl.cj {p : Int} {ds : List Int} {a b c : PS} (F : Fm p ds a b c) {z w : El} (h : Idl p a b z) (k : Idl p a b w) : ∃ o : El, EE p (El.mul ds z w.cj) (El.mul ds (El.of a F.fa) o) := by
  obtain ⟨q, fq, hq⟩ := h
  obtain ⟨r, fr, hr⟩ := k
  refine ⟨⟨padd (pmul c (pmul z.y w.y)) (padd (pmul b (padd (pmul z.y r) (pmul w.y q))) (pmul (pmul q r) a)), padd (pmul r z.y) (psmul (-1) (pmul q w.y)), (F.fc.mul (z.fy.mul w.fy)).add ((F.fb.mul ((z.fy.mul fr).add (w.fy.mul fq))).add ((fq.mul fr).mul F.fa)), (fr.mul z.fy).add ((fq.mul w.fy).smul _)⟩, ⟨?_, ?_⟩⟩
  · refine Eqp.trans ?_ (Eqp.of_eq (show _ = padd (pmul a _) (pmul (cf ds) (pmul pzero _)) by rw [pzero_mul, pmul_pzero, padd_pzero])) 
    exact (Eqp.linl (padd (pmul z.x w.x) (pmul (cf ds) (pmul z.y (psmul (-1) w.y)))) (pmul a (padd (pmul c (pmul z.y w.y)) (padd (pmul b (padd (pmul z.y r) (pmul w.y q))) (pmul (pmul q r) a)))) [(w.x, z.x, (padd (pmul b z.y) (pmul q a))), ((padd (pmul b z.y) (pmul q a)), w.x, (padd (pmul b w.y) (pmul r a))), ((pmul z.y w.y), (padd (pmul b b) (psmul (-1) (cf ds))), (pmul c a))] ⟨hq, hr, F.e, trivial⟩ (RE.same [(cf ds), z.x, z.y, w.x, w.y, a, b, c, q, r] ((((.v 1) * (.v 3)) + ((.v 0) * ((.v 2) * (-(.v 4))))) + -((.v 5) * (((.v 7) * ((.v 2) * (.v 4))) + (((.v 6) * (((.v 2) * (.v 9)) + ((.v 4) * (.v 8)))) + (((.v 8) * (.v 9)) * (.v 5)))))) (((.v 3) * ((.v 1) + -(((.v 6) * (.v 2)) + ((.v 8) * (.v 5))))) + (((((.v 6) * (.v 2)) + ((.v 8) * (.v 5))) * ((.v 3) + -(((.v 6) * (.v 4)) + ((.v 9) * (.v 5))))) + (((.v 2) * (.v 4)) * ((((.v 6) * (.v 6)) + -(.v 0)) + -((.v 7) * (.v 5)))))) (by decide +kernel) rfl rfl))
  · refine Eqp.trans ?_ (Eqp.of_eq (show _ = padd (pmul a _) (pmul pzero _) by rw [pzero_mul, padd_pzero])) 
    exact (Eqp.linl (padd (pmul z.x (psmul (-1) w.y)) (pmul z.y w.x)) (pmul a (padd (pmul r z.y) (psmul (-1) (pmul q w.y)))) [((psmul (-1) w.y), z.x, (padd (pmul b z.y) (pmul q a))), (z.y, w.x, (padd (pmul b w.y) (pmul r a)))] ⟨hq, hr, trivial⟩ (RE.same [z.x, z.y, w.x, w.y, a, b, q, r] ((((.v 0) * (-(.v 3))) + ((.v 1) * (.v 2))) + -((.v 4) * (((.v 7) * (.v 1)) + -((.v 6) * (.v 3))))) (((-(.v 3)) * ((.v 0) + -(((.v 5) * (.v 1)) + ((.v 6) * (.v 4))))) + ((.v 1) * ((.v 2) + -(((.v 5) * (.v 3)) + ((.v 7) * (.v 4)))))) (by decide +kernel) rfl rfl))

/-- Of one class. -/
def Eqv (p : Int) (ds : List Int) (a b a' b' : PS) : Prop := ∃ α β : El, ¬ EE p α El.zero ∧ ¬ EE p β El.zero ∧
  (∀ z, Idl p a b z → ∃ w, Idl p a' b' w ∧ EE p (El.mul ds α z) (El.mul ds β w)) ∧ (∀ w, Idl p a' b' w → ∃ z, Idl p a b z ∧ EE p (El.mul ds α z) (El.mul ds β w))
theorem Eqv.symm {p : Int} {ds : List Int} {a b a' b' : PS} (h : Eqv p ds a b a' b') : Eqv p ds a' b' a b := by
  obtain ⟨α, β, h1, h2, h3, h4⟩ := h
  exact ⟨β, α, h2, h1, fun w hw => by obtain ⟨z, hz, e⟩ := h4 w hw; exact ⟨z, hz, e.symm⟩, fun z hz => by obtain ⟨w, hw, e⟩ := h3 z hz; exact ⟨w, hw, e.symm⟩⟩
theorem Eqv.trans {p : Int} {ds : List Int} (H : Dc p ds) {a b a' b' a'' b'' : PS} (h : Eqv p ds a b a' b') (k : Eqv p ds a' b' a'' b'') : Eqv p ds a b a'' b'' := by
  obtain ⟨α, β, h1, h2, h3, h4⟩ := h
  obtain ⟨γ, δ, k1, k2, k3, k4⟩ := k
  have key : ∀ z w v, EE p (El.mul ds α z) (El.mul ds β w) → EE p (El.mul ds γ w) (El.mul ds δ v) → EE p (El.mul ds (El.mul ds γ α) z) (El.mul ds (El.mul ds β δ) v) := fun z w v e1 e2 =>
    (El.assoc p ds γ α z).trans ((EE.mul (.refl γ) e1).trans ((El.left_comm p ds γ β w).trans ((EE.mul (.refl β) e2).trans (El.assoc p ds β δ v).symm)))
  refine ⟨El.mul ds γ α, El.mul ds β δ, H.mul_ne k1 h1, H.mul_ne h2 k2, fun z hz => ?_, fun v hv => ?_⟩
  · obtain ⟨w, hw, e1⟩ := h3 z hz
    obtain ⟨v, hv, e2⟩ := k3 w hw
    exact ⟨v, hv, key z w v e1 e2⟩
  · obtain ⟨w, hw, e2⟩ := k4 v hv
    obtain ⟨z, hz, e1⟩ := h4 w hw
    exact ⟨z, hz, key z w v e1 e2⟩
/-- Sums of products. -/
inductive SP (p : Int) (ds : List Int) (P Q : El → Prop) : El → Prop
  | prod {x f u : El} (hx : P x) (hf : Q f) (h : EE p u (El.mul ds x f)) : SP p ds P Q u
  | add {u v t : El} (hu : SP p ds P Q u) (hv : SP p ds P Q v) (h : EE p t (u.add v)) : SP p ds P Q t
/-- (A, B) with the factor d is what (a1, b1) and (a2, b2) make. -/
structure Cps (p : Int) (ds : List Int) (a1 b1 a2 b2 A B : PS) (d : El) : Prop where
  dn : ¬ EE p d El.zero
  f1 : ∀ z w, Idl p a1 b1 z → Idl p a2 b2 w → ∃ v, Idl p A B v ∧ EE p (El.mul ds z w) (El.mul ds d v)
  f2 : ∀ v, Idl p A B v → SP p ds (Idl p a1 b1) (Idl p a2 b2) (El.mul ds d v)
theorem Cps.back {p : Int} {ds : List Int} {a1 b1 c1 a2 b2 c2 A B : PS} {d : El} (C : Cps p ds a1 b1 a2 b2 A B d) (F1 : Fm p ds a1 b1 c1) (F2 : Fm p ds a2 b2 c2) {v w : El} (hv : Idl p A B v) (hw : Idl p a2 b2 w) :
    ∃ x, Idl p a1 b1 x ∧ EE p (El.mul ds (El.mul ds d v) w.cj) (El.mul ds (El.of a2 F2.fa) x) := by
  have h := C.f2 v hv
  generalize El.mul ds d v = u at *
  clear hv
  induction h with
  | @prod x f u hx hf e =>
    obtain ⟨o, ho⟩ := Idl.cj F2 hf hw
    exact ⟨El.mul ds x o, hx.mul F1 o, (EE.mul e (.refl _)).trans ((El.assoc p ds x f w.cj).trans ((EE.mul (.refl x) ho).trans (El.left_comm p ds x _ o)))⟩
  | @add u v t _ _ e ih1 ih2 =>
    obtain ⟨x1, k1, e1⟩ := ih1
    obtain ⟨x2, k2, e2⟩ := ih2
    refine ⟨x1.add x2, k1.add k2, ?_⟩
    refine (EE.mul e (.refl _)).trans ((El.comm p ds _ _).trans ((El.mul_add p ds _ u v).trans ?_))
    exact (EE.add ((El.comm p ds _ _).trans e1) ((El.comm p ds _ _).trans e2)).trans (El.mul_add p ds _ x1 x2).symm
/-- A form without a common divisor. -/
structure Pm (p : Int) (ds : List Int) (a b c m1 m2 m3 : PS) : Prop where
  F : Fm p ds a b c
  f1 : Fn m1
  f2 : Fn m2
  f3 : Fn m3
  e : Eqp p pone (padd (pmul m1 a) (padd (pmul m2 (padd b b)) (pmul m3 c)))
theorem Idl.a {p : Int} {a b : PS} (fa : Fn a) {f : PS} (hf : Fn f) : Idl p a b (El.of (pmul f a) (hf.mul fa)) := ⟨f, hf, Eqp.of_eq (by show pmul f a = padd (pmul b pzero) _; rw [pmul_pzero, pzero_padd])⟩
def El.bs (b : PS) (fb : Fn b) : El := ⟨b, pone, fb, Fn.one⟩
theorem Idl.bs {p : Int} {a b : PS} (fb : Fn b) : Idl p a b (El.bs b fb) := ⟨pzero, Fn.zero, Eqp.of_eq (by show b = padd (pmul b pone) (pmul pzero a); rw [pmul_one, pzero_mul, padd_pzero])⟩
theorem Idl.sc {p : Int} {a b : PS} {z : El} (h : Idl p a b z) {f : PS} (hf : Fn f) : Idl p a b ⟨pmul f z.x, pmul f z.y, hf.mul z.fx, hf.mul z.fy⟩ := by
  obtain ⟨q, fq, hq⟩ := h
  exact ⟨pmul f q, hf.mul fq, (Eqp.linl (pmul f z.x) (padd (pmul b (pmul f z.y)) (pmul (pmul f q) a)) [(f, z.x, (padd (pmul b z.y) (pmul q a)))] ⟨hq, trivial⟩ (RE.same [z.x, z.y, a, b, q, f] (((.v 5) * (.v 0)) + -(((.v 3) * ((.v 5) * (.v 1))) + (((.v 5) * (.v 4)) * (.v 2)))) ((.v 5) * ((.v 0) + -(((.v 3) * (.v 1)) + ((.v 4) * (.v 2))))) (by decide +kernel) rfl rfl))⟩
/-- The half of an equivalence. -/
theorem half {p : Int} {ds : List Int} (H : Dc p ds) {a1 b1 a2 b2 c2 A B y1 z1 x1 A' B' m1 m2 m3 : PS} {d d' α β : El} (C : Cps p ds a1 b1 a2 b2 A B d) (C' : Cps p ds y1 z1 a2 b2 A' B' d') (Fy : Fm p ds y1 z1 x1) (P2 : Pm p ds a2 b2 c2 m1 m2 m3)
    (h : ∀ z, Idl p A B z → ∃ w, Idl p A' B' w ∧ EE p (El.mul ds α z) (El.mul ds β w)) (v : El) (hv : Idl p a1 b1 v) : ∃ y, Idl p y1 z1 y ∧ EE p (El.mul ds (El.mul ds α d') v) (El.mul ds (El.mul ds β d) y) := by
  have F2 := P2.F
  -- one product
  have key : ∀ f w, Idl p a2 b2 f → Idl p a2 b2 w → ∃ y, Idl p y1 z1 y ∧ EE p (El.mul ds (El.mul ds α d') (El.mul ds (El.mul ds v f) w.cj)) (El.mul ds (El.of a2 F2.fa) (El.mul ds (El.mul ds β d) y)) := fun f w hf hw => by
    obtain ⟨z, hz, e1⟩ := C.f1 v f hv hf
    obtain ⟨z', hz', e2⟩ := h z hz
    obtain ⟨y, hy, e3⟩ := C'.back Fy F2 hz' hw
    refine ⟨y, hy, ?_⟩
    -- α d' (v f) w = α d' d z w = d d' β z' w = d β (d' z' w) = d β a y
    refine (EE.mul (.refl _) (EE.mul e1 (.refl _))).trans ?_
    have s1 : EE p (El.mul ds (El.mul ds α d') (El.mul ds (El.mul ds d z) w.cj)) (El.mul ds (El.mul ds d d') (El.mul ds (El.mul ds α z) w.cj)) := by
      refine (El.assoc p ds α d' _).trans ((El.left_comm p ds α d' _).trans ?_)
      refine (EE.mul (.refl d') ((EE.mul (.refl α) (El.assoc p ds d z _)).trans (El.left_comm p ds α d _))).trans ?_
      refine (El.left_comm p ds d' d _).trans ((El.assoc p ds d d' _).symm.trans (EE.mul (.refl _) (El.assoc p ds α z _).symm))
    refine s1.trans ((EE.mul (.refl _) (EE.mul e2 (.refl _))).trans ?_)
    refine (El.assoc p ds d d' _).trans ?_
    refine (EE.mul (.refl d) ((EE.mul (.refl d') (El.assoc p ds β z' _)).trans ((El.left_comm p ds d' β _).trans (EE.mul (.refl β) ((El.assoc p ds d' z' _).symm.trans e3))))).trans ?_
    exact (EE.mul (.refl d) (El.left_comm p ds β _ y)).trans ((El.left_comm p ds d _ _).trans (EE.mul (.refl _) ((El.left_comm p ds d β y).trans (El.assoc p ds β d y).symm)))
  have i1 := Idl.a (p := p) (b := b2) F2.fa Fn.one
  have i2 := Idl.bs (p := p) (a := a2) F2.fb
  obtain ⟨y0, hy0, e0⟩ := key (El.of (pmul m1 a2) (P2.f1.mul F2.fa)) (El.of (pmul pone a2) (Fn.one.mul F2.fa)) (Idl.a F2.fa P2.f1) i1
  obtain ⟨y1', hy1, e1⟩ := key ⟨pmul m2 b2, pmul m2 pone, P2.f2.mul F2.fb, P2.f2.mul Fn.one⟩ (El.of (pmul pone a2) (Fn.one.mul F2.fa)) (i2.sc P2.f2) i1
  obtain ⟨y2, hy2, e2⟩ := key (El.of (pmul m2 a2) (P2.f2.mul F2.fa)) (El.bs b2 F2.fb) (Idl.a F2.fa P2.f2) i2
  obtain ⟨y3, hy3, e3⟩ := key ⟨pmul m3 b2, pmul m3 pone, P2.f3.mul F2.fb, P2.f3.mul Fn.one⟩ (El.bs b2 F2.fb) (i2.sc P2.f3) i2
  refine ⟨(y0.add y1').add (y2.add y3), (hy0.add hy1).add (hy2.add hy3), H.cancel (of_ne F2.fa F2.an) ?_⟩
  -- a α d' v = the sum of the four
  have hs := ((EE.add (EE.add e0 e1) (EE.add e2 e3)))
  have hr : EE p _ (El.mul ds (El.of a2 F2.fa) (El.mul ds (El.mul ds β d) ((y0.add y1').add (y2.add y3)))) := hs.trans ((EE.add (El.mul_add p ds _ _ _).symm (El.mul_add p ds _ _ _).symm).trans ((El.mul_add p ds _ _ _).symm.trans (EE.mul (.refl _) ((EE.add (El.mul_add p ds _ _ _).symm (El.mul_add p ds _ _ _).symm).trans (El.mul_add p ds _ _ _).symm))))
  refine EE.trans ?_ hr
  refine EE.trans ?_ ((El.mul_add p ds _ _ _).trans (EE.add (El.mul_add p ds _ _ _) (El.mul_add p ds _ _ _)))
  refine (El.left_comm p ds _ _ v).trans (EE.mul (.refl _) ?_)
  have hP := P2.e
  have hF := F2.e
  have a2x : (El.of a2 F2.fa).x = a2 := rfl
  refine ⟨?_, ?_⟩
  · show Eqp p (padd (pmul a2 v.x) (pmul (cf ds) (pmul pzero v.y))) (padd (padd (padd (pmul (padd (pmul v.x (pmul m1 a2)) (pmul (cf ds) (pmul v.y pzero))) (pmul pone a2)) (pmul (cf ds) (pmul (padd (pmul v.x pzero) (pmul v.y (pmul m1 a2))) (psmul (-1) pzero)))) (padd (pmul (padd (pmul v.x (pmul m2 b2)) (pmul (cf ds) (pmul v.y (pmul m2 pone)))) (pmul pone a2)) (pmul (cf ds) (pmul (padd (pmul v.x (pmul m2 pone)) (pmul v.y (pmul m2 b2))) (psmul (-1) pzero))))) (padd (padd (pmul (padd (pmul v.x (pmul m2 a2)) (pmul (cf ds) (pmul v.y pzero))) b2) (pmul (cf ds) (pmul (padd (pmul v.x pzero) (pmul v.y (pmul m2 a2))) (psmul (-1) pone)))) (padd (pmul (padd (pmul v.x (pmul m3 b2)) (pmul (cf ds) (pmul v.y (pmul m3 pone)))) b2) (pmul (cf ds) (pmul (padd (pmul v.x (pmul m3 pone)) (pmul v.y (pmul m3 b2))) (psmul (-1) pone))))))
    rw [← psmul_zero pone]
    exact (Eqp.linl (padd (pmul a2 v.x) (pmul (cf ds) (pmul (psmul 0 pone) v.y))) (padd (padd (padd (pmul (padd (pmul v.x (pmul m1 a2)) (pmul (cf ds) (pmul v.y (psmul 0 pone)))) (pmul pone a2)) (pmul (cf ds) (pmul (padd (pmul v.x (psmul 0 pone)) (pmul v.y (pmul m1 a2))) (psmul (-1) (psmul 0 pone))))) (padd (pmul (padd (pmul v.x (pmul m2 b2)) (pmul (cf ds) (pmul v.y (pmul m2 pone)))) (pmul pone a2)) (pmul (cf ds) (pmul (padd (pmul v.x (pmul m2 pone)) (pmul v.y (pmul m2 b2))) (psmul (-1) (psmul 0 pone)))))) (padd (padd (pmul (padd (pmul v.x (pmul m2 a2)) (pmul (cf ds) (pmul v.y (psmul 0 pone)))) b2) (pmul (cf ds) (pmul (padd (pmul v.x (psmul 0 pone)) (pmul v.y (pmul m2 a2))) (psmul (-1) pone)))) (padd (pmul (padd (pmul v.x (pmul m3 b2)) (pmul (cf ds) (pmul v.y (pmul m3 pone)))) b2) (pmul (cf ds) (pmul (padd (pmul v.x (pmul m3 pone)) (pmul v.y (pmul m3 b2))) (psmul (-1) pone)))))) [((pmul a2 v.x), pone, (padd (pmul m1 a2) (padd (pmul m2 (padd b2 b2)) (pmul m3 c2)))), ((psmul (-1) (pmul m3 v.x)), (padd (pmul b2 b2) (psmul (-1) (cf ds))), (pmul c2 a2))] ⟨hP, hF, trivial⟩ (RE.same [(cf ds), v.x, v.y, a2, b2, c2, m1, m2, m3] ((((.v 3) * (.v 1)) + ((.v 0) * ((.k 0) * (.v 2)))) + -(((((((.v 1) * ((.v 6) * (.v 3))) + ((.v 0) * ((.v 2) * (.k 0)))) * (.one * (.v 3))) + ((.v 0) * ((((.v 1) * (.k 0)) + ((.v 2) * ((.v 6) * (.v 3)))) * (-(.k 0))))) + (((((.v 1) * ((.v 7) * (.v 4))) + ((.v 0) * ((.v 2) * ((.v 7) * .one)))) * (.one * (.v 3))) + ((.v 0) * ((((.v 1) * ((.v 7) * .one)) + ((.v 2) * ((.v 7) * (.v 4)))) * (-(.k 0)))))) + ((((((.v 1) * ((.v 7) * (.v 3))) + ((.v 0) * ((.v 2) * (.k 0)))) * (.v 4)) + ((.v 0) * ((((.v 1) * (.k 0)) + ((.v 2) * ((.v 7) * (.v 3)))) * (-.one)))) + (((((.v 1) * ((.v 8) * (.v 4))) + ((.v 0) * ((.v 2) * ((.v 8) * .one)))) * (.v 4)) + ((.v 0) * ((((.v 1) * ((.v 8) * .one)) + ((.v 2) * ((.v 8) * (.v 4)))) * (-.one))))))) ((((.v 3) * (.v 1)) * (.one + -(((.v 6) * (.v 3)) + (((.v 7) * ((.v 4) + (.v 4))) + ((.v 8) * (.v 5)))))) + ((-((.v 8) * (.v 1))) * ((((.v 4) * (.v 4)) + -(.v 0)) + -((.v 5) * (.v 3))))) (by decide +kernel) rfl rfl))
  · show Eqp p (padd (pmul a2 v.y) (pmul pzero v.x)) (padd (padd (padd (pmul (padd (pmul v.x (pmul m1 a2)) (pmul (cf ds) (pmul v.y pzero))) (psmul (-1) pzero)) (pmul (padd (pmul v.x pzero) (pmul v.y (pmul m1 a2))) (pmul pone a2))) (padd (pmul (padd (pmul v.x (pmul m2 b2)) (pmul (cf ds) (pmul v.y (pmul m2 pone)))) (psmul (-1) pzero)) (pmul (padd (pmul v.x (pmul m2 pone)) (pmul v.y (pmul m2 b2))) (pmul pone a2)))) (padd (padd (pmul (padd (pmul v.x (pmul m2 a2)) (pmul (cf ds) (pmul v.y pzero))) (psmul (-1) pone)) (pmul (padd (pmul v.x pzero) (pmul v.y (pmul m2 a2))) b2)) (padd (pmul (padd (pmul v.x (pmul m3 b2)) (pmul (cf ds) (pmul v.y (pmul m3 pone)))) (psmul (-1) pone)) (pmul (padd (pmul v.x (pmul m3 pone)) (pmul v.y (pmul m3 b2))) b2))))
    rw [← psmul_zero pone]
    exact (Eqp.linl (padd (pmul a2 v.y) (pmul (psmul 0 pone) v.x)) (padd (padd (padd (pmul (padd (pmul v.x (pmul m1 a2)) (pmul (cf ds) (pmul v.y (psmul 0 pone)))) (psmul (-1) (psmul 0 pone))) (pmul (padd (pmul v.x (psmul 0 pone)) (pmul v.y (pmul m1 a2))) (pmul pone a2))) (padd (pmul (padd (pmul v.x (pmul m2 b2)) (pmul (cf ds) (pmul v.y (pmul m2 pone)))) (psmul (-1) (psmul 0 pone))) (pmul (padd (pmul v.x (pmul m2 pone)) (pmul v.y (pmul m2 b2))) (pmul pone a2)))) (padd (padd (pmul (padd (pmul v.x (pmul m2 a2)) (pmul (cf ds) (pmul v.y (psmul 0 pone)))) (psmul (-1) pone)) (pmul (padd (pmul v.x (psmul 0 pone)) (pmul v.y (pmul m2 a2))) b2)) (padd (pmul (padd (pmul v.x (pmul m3 b2)) (pmul (cf ds) (pmul v.y (pmul m3 pone)))) (psmul (-1) pone)) (pmul (padd (pmul v.x (pmul m3 pone)) (pmul v.y (pmul m3 b2))) b2)))) [((pmul a2 v.y), pone, (padd (pmul m1 a2) (padd (pmul m2 (padd b2 b2)) (pmul m3 c2)))), ((psmul (-1) (pmul m3 v.y)), (padd (pmul b2 b2) (psmul (-1) (cf ds))), (pmul c2 a2))] ⟨hP, hF, trivial⟩ (RE.same [(cf ds), v.x, v.y, a2, b2, c2, m1, m2, m3] ((((.v 3) * (.v 2)) + ((.k 0) * (.v 1))) + -(((((((.v 1) * ((.v 6) * (.v 3))) + ((.v 0) * ((.v 2) * (.k 0)))) * (-(.k 0))) + ((((.v 1) * (.k 0)) + ((.v 2) * ((.v 6) * (.v 3)))) * (.one * (.v 3)))) + (((((.v 1) * ((.v 7) * (.v 4))) + ((.v 0) * ((.v 2) * ((.v 7) * .one)))) * (-(.k 0))) + ((((.v 1) * ((.v 7) * .one)) + ((.v 2) * ((.v 7) * (.v 4)))) * (.one * (.v 3))))) + ((((((.v 1) * ((.v 7) * (.v 3))) + ((.v 0) * ((.v 2) * (.k 0)))) * (-.one)) + ((((.v 1) * (.k 0)) + ((.v 2) * ((.v 7) * (.v 3)))) * (.v 4))) + (((((.v 1) * ((.v 8) * (.v 4))) + ((.v 0) * ((.v 2) * ((.v 8) * .one)))) * (-.one)) + ((((.v 1) * ((.v 8) * .one)) + ((.v 2) * ((.v 8) * (.v 4)))) * (.v 4)))))) ((((.v 3) * (.v 2)) * (.one + -(((.v 6) * (.v 3)) + (((.v 7) * ((.v 4) + (.v 4))) + ((.v 8) * (.v 5)))))) + ((-((.v 8) * (.v 2))) * ((((.v 4) * (.v 4)) + -(.v 0)) + -((.v 5) * (.v 3))))) (by decide +kernel) rfl rfl))
end Go.Proofs.Ytohgjihccjnheab

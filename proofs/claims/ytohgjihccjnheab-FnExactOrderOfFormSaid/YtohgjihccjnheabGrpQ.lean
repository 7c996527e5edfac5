/- Powers of a form come to the unit. No program in sight. -/
import Derived.Test.YtohgjihccjnheabGrpP
set_option linter.unusedVariables false
set_option linter.unusedSimpArgs false
namespace Go.Proofs.Ytohgjihccjnheab

/-- The derivative. -/
def pder (f : PS) : PS := fun n => ((n : Int) + 1) * f (n + 1)
theorem Fn.der {f : PS} (h : Fn f) : Fn (pder f) := by
  obtain ⟨n, h⟩ := h
  exact ⟨n, fun i hi => by show _ * f (i + 1) = 0; rw [h (i + 1) (by omega), Int.mul_zero]⟩
theorem pder_eqp {p : Int} {f g : PS} (h : Eqp p f g) : Eqp p (pder f) (pder g) := fun n => emod_mul_congr rfl (h (n + 1))
theorem pder_mul (f g : PS) : pder (pmul f g) = padd (pmul (pder f) g) (pmul f (pder g)) := by
  funext n
  show ((n : Int) + 1) * sumN (n + 1 + 1) (fun i => f i * g (n + 1 - i)) = sumN (n + 1) (fun i => ((i : Int) + 1) * f (i + 1) * g (n - i)) + sumN (n + 1) (fun i => f i * ((((n - i : Nat) : Int) + 1) * g (n - i + 1)))
  have e1 : ((n : Int) + 1) * sumN (n + 1 + 1) (fun i => f i * g (n + 1 - i)) = sumN (n + 1 + 1) (fun i => (i : Int) * (f i * g (n + 1 - i))) + sumN (n + 1 + 1) (fun i => ((n + 1 - i : Nat) : Int) * (f i * g (n + 1 - i))) := by
    rw [← sumN_mul, ← sumN_add]
    refine sumN_congr fun i hi => ?_
    rw [← Int.add_mul]; congr 1; omega
  rw [e1, sumN_first (n + 1) (fun i => (i : Int) * (f i * g (n + 1 - i)))]
  have e2 : sumN (n + 1 + 1) (fun i => ((n + 1 - i : Nat) : Int) * (f i * g (n + 1 - i))) = sumN (n + 1) (fun i => ((n + 1 - i : Nat) : Int) * (f i * g (n + 1 - i))) := by
    show sumN (n + 1) _ + ((n + 1 - (n + 1) : Nat) : Int) * _ = _
    rw [Nat.sub_self]; simp
  rw [e2]
  have e3 : ((0 : Nat) : Int) * (f 0 * g (n + 1 - 0)) = 0 := by simp
  rw [e3, Int.zero_add]
  congr 1
  · refine sumN_congr fun i hi => ?_
    rw [Int.mul_assoc, show n + 1 - (i + 1) = n - i by omega]; push_cast; rfl
  · refine sumN_congr fun i hi => ?_
    rw [show n + 1 - i = n - i + 1 by omega, Int.mul_left_comm]; push_cast; rfl
/-- No square divides the discriminant. -/
def Sf (p : Int) (ds : List Int) : Prop := ∃ u v, Fn u ∧ Fn v ∧ Eqp p pone (padd (pmul u (cf ds)) (pmul v (pder (cf ds))))
theorem Dv.of_fn {p : Int} {d a q : PS} (hq : Fn q) (h : Eqp p a (pmul q d)) : Dv p d a := by obtain ⟨n, hq⟩ := hq; exact ⟨q, n, hq, h⟩
theorem Dv.fn {p : Int} {d a : PS} (h : Dv p d a) : ∃ q, Fn q ∧ Eqp p a (pmul q d) := by obtain ⟨q, n, hq, e⟩ := h; exact ⟨q, ⟨n, hq⟩, e⟩
set_option maxHeartbeats 400000 in
theorem Sf.unit {p : Int} {ds : List Int} (S : Sf p ds) {a b c h : PS} (fh : Fn h) (ha : Dv p h a) (hb : Dv p h b) (hc : Dv p h c) (e : Eqp p (padd (pmul b b) (psmul (-1) (cf ds))) (pmul c a)) : ∃ q, Fn q ∧ Eqp p pone (pmul q h) := by
  obtain ⟨u, v, fu, fv, e0⟩ := S
  obtain ⟨x, fx, ex⟩ := ha.fn
  obtain ⟨y, fy, ey⟩ := hb.fn
  obtain ⟨z, fz, ez⟩ := hc.fn
  have fk : Fn (padd (pmul y y) (psmul (-1) (pmul z x))) := (fy.mul fy).add ((fz.mul fx).smul _)
  have k1 : Eqp p (cf ds) (pmul h (pmul h (padd (pmul y y) (psmul (-1) (pmul z x))))) := (Eqp.linl (cf ds) (pmul h (pmul h (padd (pmul y y) (psmul (-1) (pmul z x))))) [((psmul (-1) pone), (padd (pmul b b) (psmul (-1) (cf ds))), (pmul c a)), (b, b, (pmul y h)), ((pmul y h), b, (pmul y h)), ((psmul (-1) a), c, (pmul z h)), ((psmul (-1) (pmul z h)), a, (pmul x h))] ⟨e, ey, ey, ez, ex, trivial⟩ (RE.same [(cf ds), a, b, c, x, y, z, h] ((.v 0) + -((.v 7) * ((.v 7) * (((.v 5) * (.v 5)) + -((.v 6) * (.v 4)))))) (((-.one) * ((((.v 2) * (.v 2)) + -(.v 0)) + -((.v 3) * (.v 1)))) + (((.v 2) * ((.v 2) + -((.v 5) * (.v 7)))) + ((((.v 5) * (.v 7)) * ((.v 2) + -((.v 5) * (.v 7)))) + (((-(.v 1)) * ((.v 3) + -((.v 6) * (.v 7)))) + ((-((.v 6) * (.v 7))) * ((.v 1) + -((.v 4) * (.v 7)))))))) (by decide +kernel) rfl rfl))
  generalize padd (pmul y y) (psmul (-1) (pmul z x)) = k at *
  have k2 := pder_eqp k1
  rw [pder_mul, pder_mul] at k2
  have fhd := fh.der
  have fkd := fk.der
  have fD := (Fn.cf ds).der
  generalize pder (cf ds) = D' at *
  generalize pder h = h' at *
  generalize pder k = k' at *
  refine ⟨(padd (pmul u (pmul h k)) (pmul v (padd (pmul h' k) (padd (pmul h' k) (pmul h k'))))), ((fu.mul (fh.mul fk)).add (fv.mul ((fhd.mul fk).add ((fhd.mul fk).add (fh.mul fkd))))), ?_⟩
  exact (Eqp.linl pone (pmul (padd (pmul u (pmul h k)) (pmul v (padd (pmul h' k) (padd (pmul h' k) (pmul h k'))))) h) [(pone, pone, (padd (pmul u (cf ds)) (pmul v D'))), (u, (cf ds), (pmul h (pmul h k))), (v, D', (padd (pmul h' (pmul h k)) (pmul h (padd (pmul h' k) (pmul h k')))))] ⟨e0, k1, k2, trivial⟩ (RE.same [(cf ds), D', u, v, h, k, h', k'] (.one + -((((.v 2) * ((.v 4) * (.v 5))) + ((.v 3) * (((.v 6) * (.v 5)) + (((.v 6) * (.v 5)) + ((.v 4) * (.v 7)))))) * (.v 4))) ((.one * (.one + -(((.v 2) * (.v 0)) + ((.v 3) * (.v 1))))) + (((.v 2) * ((.v 0) + -((.v 4) * ((.v 4) * (.v 5))))) + ((.v 3) * ((.v 1) + -(((.v 6) * ((.v 4) * (.v 5))) + ((.v 4) * (((.v 6) * (.v 5)) + ((.v 4) * (.v 7))))))))) (by decide +kernel) rfl rfl))
/-- A greatest common divisor. -/
theorem comb {p : Int} (hp : Pr p) {f g : PS} (hf : Fn f) (hg : Fn g) (hn : ¬ Eqp p f pzero) : ∃ h u v, Fn h ∧ Fn u ∧ Fn v ∧ ¬ Eqp p h pzero ∧ Eqp p h (padd (pmul u f) (pmul v g)) ∧ Dv p h f ∧ Dv p h g := by
  obtain ⟨l, l1, l2, l3⟩ := hf.list hp
  obtain ⟨m, m1, m2, _⟩ := hg.list hp
  have k := bez_ok hp l1 m1 (Or.inl (l3 hn))
  refine ⟨_, _, _, Fn.cf _, Fn.cf _, Fn.cf _, fun e => k.ne ?_, k.id.trans (Eqp.add (Eqp.mul (Eqp.refl _) l2) (Eqp.mul (Eqp.refl _) m2)), ?_, ?_⟩
  · exact k.pd.eq_of_eqp (Po_nil (by have := hp.pos; omega)) (by rw [cf_nil_zero]; exact e)
  · obtain ⟨q, fq, e⟩ := k.da.fn; exact Dv.of_fn fq (l2.symm.trans e)
  · obtain ⟨q, fq, e⟩ := k.db.fn; exact Dv.of_fn fq (m2.symm.trans e)
theorem half_of {p : Int} (hp : Pr p) (h2 : p ≠ 2) (b : PS) : Eqp p b (psmul ((p + 1) / 2) (padd b b)) := fun n => by
  show b n % p = ((p + 1) / 2 * (b n + b n)) % p
  have h : (p + 1) / 2 * 2 = p + 1 := by rcases hp with rfl | rfl | rfl | rfl <;> first | (exact absurd rfl h2) | decide
  rw [show (p + 1) / 2 * (b n + b n) = (p + 1) / 2 * 2 * b n by rw [Int.mul_assoc]; congr 1; omega, h, Int.add_mul, Int.one_mul, Int.add_comm, Int.add_mul_emod_self_left]
set_option maxHeartbeats 400000 in
theorem Fm.pm {p : Int} (hp : Pr p) (h2 : p ≠ 2) {ds : List Int} (S : Sf p ds) {a b c : PS} (F : Fm p ds a b c) : ∃ m1 m2 m3, Pm p ds a b c m1 m2 m3 := by
  obtain ⟨h, u, v, fh, fu, fv, nh, e1, d1, d2⟩ := comb hp F.fa (F.fb.add F.fb) F.an
  obtain ⟨k, r, s, fk, fr, fs, nk, e2, d3, d4⟩ := comb hp fh F.fc nh
  have db : Dv p k b := by
    obtain ⟨q, fq, e⟩ := (d3.trans d2).fn
    exact Dv.of_fn (fq.smul ((p + 1) / 2)) ((half_of hp h2 b).trans ((Eqp.smul e).trans (Eqp.of_eq (psmul_pmul _ _ _).symm)))
  obtain ⟨q, fq, e3⟩ := S.unit fk (d3.trans d1) db d4 F.e
  refine ⟨pmul q (pmul r u), pmul q (pmul r v), pmul q s, F, fq.mul (fr.mul fu), fq.mul (fr.mul fv), fq.mul fs, ?_⟩
  exact (Eqp.linl pone (padd (pmul (pmul q (pmul r u)) a) (padd (pmul (pmul q (pmul r v)) (padd b b)) (pmul (pmul q s) c))) [(pone, pone, (pmul q k)), (q, k, (padd (pmul r h) (pmul s c))), ((pmul q r), h, (padd (pmul u a) (pmul v (padd b b))))] ⟨e3, e2, e1, trivial⟩ (RE.same [a, b, c, h, k, u, v, r, s, q] (.one + -((((.v 9) * ((.v 7) * (.v 5))) * (.v 0)) + ((((.v 9) * ((.v 7) * (.v 6))) * ((.v 1) + (.v 1))) + (((.v 9) * (.v 8)) * (.v 2))))) ((.one * (.one + -((.v 9) * (.v 4)))) + (((.v 9) * ((.v 4) + -(((.v 7) * (.v 3)) + ((.v 8) * (.v 2))))) + (((.v 9) * (.v 7)) * ((.v 3) + -(((.v 5) * (.v 0)) + ((.v 6) * ((.v 1) + (.v 1)))))))) (by decide +kernel) rfl rfl))

/-- What is known of a composition. -/
structure CmD (p : Int) (ds : List Int) (a1 b1 c1 a2 b2 c2 A B r s t d N e1 e2 e3 m1 m2 m3 m4 : PS) : Prop where
  fa1 : Fn a1
  fa2 : Fn a2
  fb1 : Fn b1
  fb2 : Fn b2
  ft : Fn t
  fr : Fn r
  fs : Fn s
  fd : Fn d
  fe1 : Fn e1
  fe2 : Fn e2
  fe3 : Fn e3
  fc1 : Fn c1
  fc2 : Fn c2
  fA : Fn A
  fB : Fn B
  fm1 : Fn m1
  fm2 : Fn m2
  fm3 : Fn m3
  fm4 : Fn m4
  dn : ¬ Eqp p d pzero
  hd : Eqp p d (padd (padd (pmul r a1) (pmul s a2)) (pmul t (padd b1 b2)))
  hN : Eqp p N (padd (padd (pmul (pmul r a1) b2) (pmul (pmul s a2) b1)) (pmul t (padd (pmul b1 b2) (cf ds))))
  ha1 : Eqp p a1 (pmul e1 d)
  ha2 : Eqp p a2 (pmul e2 d)
  hS : Eqp p (padd b1 b2) (pmul e3 d)
  h1 : Eqp p (padd (pmul b1 b1) (psmul (-1) (cf ds))) (pmul c1 a1)
  h2 : Eqp p (padd (pmul b2 b2) (psmul (-1) (cf ds))) (pmul c2 a2)
  hB : Eqp p (pmul B d) N
  k1 : Eqp p B (padd b1 (pmul e1 (padd (pmul r (padd b2 (psmul (-1) b1))) (psmul (-1) (pmul t c1)))))
  k2 : Eqp p B (padd b2 (pmul e2 (padd (pmul s (padd b1 (psmul (-1) b2))) (psmul (-1) (pmul t c2)))))
  k3 : Eqp p (padd (pmul B (padd b1 b2)) (psmul (-1) (padd (pmul b1 b2) (cf ds)))) (pmul (pmul d (pmul e1 e2)) (padd (pmul r c2) (pmul s c1)))
  kA : Eqp p A (pmul e1 e2)
  hm : Eqp p pone (padd (pmul m1 d) (padd (pmul m2 (padd b2 (psmul (-1) b1))) (padd (pmul m3 c1) (pmul m4 c2))))

theorem CmD.cps {p : Int} {ds : List Int} {a1 b1 c1 a2 b2 c2 A B r s t d N e1 e2 e3 m1 m2 m3 m4 : PS} (H : CmD p ds a1 b1 c1 a2 b2 c2 A B r s t d N e1 e2 e3 m1 m2 m3 m4) : Cps p ds a1 b1 a2 b2 A B (El.of d H.fd) where
  dn := of_ne H.fd H.dn
  f1 := fun z w hz hw => by
    obtain ⟨q1, fq1, hq⟩ := hz
    obtain ⟨q2, fq2, hr⟩ := hw
    refine ⟨⟨(padd (pmul B (padd (pmul e3 (pmul z.y w.y)) (padd (pmul q1 (pmul e1 w.y)) (pmul q2 (pmul e2 z.y))))) (pmul (padd (pmul (pmul q1 q2) d) (psmul (-1) (padd (pmul (pmul z.y w.y) (padd (pmul r c2) (pmul s c1))) (padd (pmul (pmul q2 z.y) (padd (pmul r (padd b2 (psmul (-1) b1))) (psmul (-1) (pmul t c1)))) (pmul (pmul q1 w.y) (padd (pmul s (padd b1 (psmul (-1) b2))) (psmul (-1) (pmul t c2)))))))) A)), (padd (pmul e3 (pmul z.y w.y)) (padd (pmul q1 (pmul e1 w.y)) (pmul q2 (pmul e2 z.y)))), (Fn.add (Fn.mul H.fB (Fn.add (Fn.mul H.fe3 (Fn.mul z.fy w.fy)) (Fn.add (Fn.mul fq1 (Fn.mul H.fe1 w.fy)) (Fn.mul fq2 (Fn.mul H.fe2 z.fy))))) (Fn.mul (Fn.add (Fn.mul (Fn.mul fq1 fq2) H.fd) (Fn.smul (-1) (Fn.add (Fn.mul (Fn.mul z.fy w.fy) (Fn.add (Fn.mul H.fr H.fc2) (Fn.mul H.fs H.fc1))) (Fn.add (Fn.mul (Fn.mul fq2 z.fy) (Fn.add (Fn.mul H.fr (Fn.add H.fb2 (Fn.smul (-1) H.fb1))) (Fn.smul (-1) (Fn.mul H.ft H.fc1)))) (Fn.mul (Fn.mul fq1 w.fy) (Fn.add (Fn.mul H.fs (Fn.add H.fb1 (Fn.smul (-1) H.fb2))) (Fn.smul (-1) (Fn.mul H.ft H.fc2)))))))) H.fA)), (Fn.add (Fn.mul H.fe3 (Fn.mul z.fy w.fy)) (Fn.add (Fn.mul fq1 (Fn.mul H.fe1 w.fy)) (Fn.mul fq2 (Fn.mul H.fe2 z.fy))))⟩, ⟨(padd (pmul (pmul q1 q2) d) (psmul (-1) (padd (pmul (pmul z.y w.y) (padd (pmul r c2) (pmul s c1))) (padd (pmul (pmul q2 z.y) (padd (pmul r (padd b2 (psmul (-1) b1))) (psmul (-1) (pmul t c1)))) (pmul (pmul q1 w.y) (padd (pmul s (padd b1 (psmul (-1) b2))) (psmul (-1) (pmul t c2)))))))), (Fn.add (Fn.mul (Fn.mul fq1 fq2) H.fd) (Fn.smul (-1) (Fn.add (Fn.mul (Fn.mul z.fy w.fy) (Fn.add (Fn.mul H.fr H.fc2) (Fn.mul H.fs H.fc1))) (Fn.add (Fn.mul (Fn.mul fq2 z.fy) (Fn.add (Fn.mul H.fr (Fn.add H.fb2 (Fn.smul (-1) H.fb1))) (Fn.smul (-1) (Fn.mul H.ft H.fc1)))) (Fn.mul (Fn.mul fq1 w.fy) (Fn.add (Fn.mul H.fs (Fn.add H.fb1 (Fn.smul (-1) H.fb2))) (Fn.smul (-1) (Fn.mul H.ft H.fc2)))))))), Eqp.refl _⟩, ⟨?_, ?_⟩⟩
    · refine Eqp.trans ?_ (Eqp.of_eq (show _ = padd (pmul d _) (pmul (cf ds) (pmul pzero _)) by rw [pzero_mul, pmul_pzero, padd_pzero]))
      exact (Eqp.linl (padd (pmul z.x w.x) (pmul (cf ds) (pmul z.y w.y))) (pmul d (padd (pmul B (padd (pmul e3 (pmul z.y w.y)) (padd (pmul q1 (pmul e1 w.y)) (pmul q2 (pmul e2 z.y))))) (pmul (padd (pmul (pmul q1 q2) d) (psmul (-1) (padd (pmul (pmul z.y w.y) (padd (pmul r c2) (pmul s c1))) (padd (pmul (pmul q2 z.y) (padd (pmul r (padd b2 (psmul (-1) b1))) (psmul (-1) (pmul t c1)))) (pmul (pmul q1 w.y) (padd (pmul s (padd b1 (psmul (-1) b2))) (psmul (-1) (pmul t c2)))))))) A))) [(w.x, z.x, (padd (pmul b1 z.y) (pmul q1 a1))), ((padd (pmul b1 z.y) (pmul q1 a1)), w.x, (padd (pmul b2 w.y) (pmul q2 a2))), ((padd (padd (pmul (pmul B q1) w.y) (psmul (-1) (pmul (pmul (pmul q1 w.y) (padd (pmul s (padd b1 (psmul (-1) b2))) (psmul (-1) (pmul t c2)))) e2))) (pmul (pmul q1 q2) a2)), a1, (pmul e1 d)), ((padd (padd (pmul (pmul B q2) z.y) (psmul (-1) (pmul (pmul (pmul q2 z.y) (padd (pmul r (padd b2 (psmul (-1) b1))) (psmul (-1) (pmul t c1)))) e1))) (pmul (pmul (pmul q1 q2) e1) d)), a2, (pmul e2 d)), ((pmul (pmul B z.y) w.y), (padd b1 b2), (pmul e3 d)), ((psmul (-1) (pmul z.y w.y)), (padd (pmul B (padd b1 b2)) (psmul (-1) (padd (pmul b1 b2) (cf ds)))), (pmul (pmul d (pmul e1 e2)) (padd (pmul r c2) (pmul s c1)))), ((psmul (-1) (pmul (pmul q2 a2) z.y)), B, (padd b1 (pmul e1 (padd (pmul r (padd b2 (psmul (-1) b1))) (psmul (-1) (pmul t c1)))))), ((psmul (-1) (pmul (pmul q1 a1) w.y)), B, (padd b2 (pmul e2 (padd (pmul s (padd b1 (psmul (-1) b2))) (psmul (-1) (pmul t c2)))))), ((psmul (-1) (pmul d (padd (pmul (pmul q1 q2) d) (psmul (-1) (padd (pmul (pmul z.y w.y) (padd (pmul r c2) (pmul s c1))) (padd (pmul (pmul q2 z.y) (padd (pmul r (padd b2 (psmul (-1) b1))) (psmul (-1) (pmul t c1)))) (pmul (pmul q1 w.y) (padd (pmul s (padd b1 (psmul (-1) b2))) (psmul (-1) (pmul t c2)))))))))), A, (pmul e1 e2))] ⟨hq, hr, H.ha1, H.ha2, H.hS, H.k3, H.k1, H.k2, H.kA, trivial⟩ (RE.same [a1, a2, b1, b2, (cf ds), t, r, s, d, e1, e2, e3, c1, c2, A, B, z.x, z.y, w.x, w.y, q1, q2] ((((.v 16) * (.v 18)) + ((.v 4) * ((.v 17) * (.v 19)))) + -((.v 8) * (((.v 15) * (((.v 11) * ((.v 17) * (.v 19))) + (((.v 20) * ((.v 9) * (.v 19))) + ((.v 21) * ((.v 10) * (.v 17)))))) + (((((.v 20) * (.v 21)) * (.v 8)) + -((((.v 17) * (.v 19)) * (((.v 6) * (.v 13)) + ((.v 7) * (.v 12)))) + ((((.v 21) * (.v 17)) * (((.v 6) * ((.v 3) + -(.v 2))) + -((.v 5) * (.v 12)))) + (((.v 20) * (.v 19)) * (((.v 7) * ((.v 2) + -(.v 3))) + -((.v 5) * (.v 13))))))) * (.v 14))))) (((.v 18) * ((.v 16) + -(((.v 2) * (.v 17)) + ((.v 20) * (.v 0))))) + (((((.v 2) * (.v 17)) + ((.v 20) * (.v 0))) * ((.v 18) + -(((.v 3) * (.v 19)) + ((.v 21) * (.v 1))))) + (((((((.v 15) * (.v 20)) * (.v 19)) + -((((.v 20) * (.v 19)) * (((.v 7) * ((.v 2) + -(.v 3))) + -((.v 5) * (.v 13)))) * (.v 10))) + (((.v 20) * (.v 21)) * (.v 1))) * ((.v 0) + -((.v 9) * (.v 8)))) + (((((((.v 15) * (.v 21)) * (.v 17)) + -((((.v 21) * (.v 17)) * (((.v 6) * ((.v 3) + -(.v 2))) + -((.v 5) * (.v 12)))) * (.v 9))) + ((((.v 20) * (.v 21)) * (.v 9)) * (.v 8))) * ((.v 1) + -((.v 10) * (.v 8)))) + (((((.v 15) * (.v 17)) * (.v 19)) * (((.v 2) + (.v 3)) + -((.v 11) * (.v 8)))) + (((-((.v 17) * (.v 19))) * ((((.v 15) * ((.v 2) + (.v 3))) + -(((.v 2) * (.v 3)) + (.v 4))) + -(((.v 8) * ((.v 9) * (.v 10))) * (((.v 6) * (.v 13)) + ((.v 7) * (.v 12)))))) + (((-(((.v 21) * (.v 1)) * (.v 17))) * ((.v 15) + -((.v 2) + ((.v 9) * (((.v 6) * ((.v 3) + -(.v 2))) + -((.v 5) * (.v 12))))))) + (((-(((.v 20) * (.v 0)) * (.v 19))) * ((.v 15) + -((.v 3) + ((.v 10) * (((.v 7) * ((.v 2) + -(.v 3))) + -((.v 5) * (.v 13))))))) + ((-((.v 8) * ((((.v 20) * (.v 21)) * (.v 8)) + -((((.v 17) * (.v 19)) * (((.v 6) * (.v 13)) + ((.v 7) * (.v 12)))) + ((((.v 21) * (.v 17)) * (((.v 6) * ((.v 3) + -(.v 2))) + -((.v 5) * (.v 12)))) + (((.v 20) * (.v 19)) * (((.v 7) * ((.v 2) + -(.v 3))) + -((.v 5) * (.v 13))))))))) * ((.v 14) + -((.v 9) * (.v 10)))))))))))) (by decide +kernel) rfl rfl))
    · refine Eqp.trans ?_ (Eqp.of_eq (show _ = padd (pmul d _) (pmul pzero _) by rw [pzero_mul, padd_pzero]))
      exact (Eqp.linl (padd (pmul z.x w.y) (pmul z.y w.x)) (pmul d (padd (pmul e3 (pmul z.y w.y)) (padd (pmul q1 (pmul e1 w.y)) (pmul q2 (pmul e2 z.y))))) [(w.y, z.x, (padd (pmul b1 z.y) (pmul q1 a1))), (z.y, w.x, (padd (pmul b2 w.y) (pmul q2 a2))), ((pmul z.y w.y), (padd b1 b2), (pmul e3 d)), ((pmul q1 w.y), a1, (pmul e1 d)), ((pmul q2 z.y), a2, (pmul e2 d))] ⟨hq, hr, H.hS, H.ha1, H.ha2, trivial⟩ (RE.same [a1, a2, b1, b2, d, e1, e2, e3, z.x, z.y, w.x, w.y, q1, q2] ((((.v 8) * (.v 11)) + ((.v 9) * (.v 10))) + -((.v 4) * (((.v 7) * ((.v 9) * (.v 11))) + (((.v 12) * ((.v 5) * (.v 11))) + ((.v 13) * ((.v 6) * (.v 9))))))) (((.v 11) * ((.v 8) + -(((.v 2) * (.v 9)) + ((.v 12) * (.v 0))))) + (((.v 9) * ((.v 10) + -(((.v 3) * (.v 11)) + ((.v 13) * (.v 1))))) + ((((.v 9) * (.v 11)) * (((.v 2) + (.v 3)) + -((.v 7) * (.v 4)))) + ((((.v 12) * (.v 11)) * ((.v 0) + -((.v 5) * (.v 4)))) + (((.v 13) * (.v 9)) * ((.v 1) + -((.v 6) * (.v 4)))))))) (by decide +kernel) rfl rfl))
  f2 := fun v hv => by
    obtain ⟨q, fq, hq⟩ := hv
    have i1 : Idl p a1 b1 (El.of (pmul (pmul q m1) a1) (Fn.mul (Fn.mul fq H.fm1) H.fa1)) := Idl.a H.fa1 (Fn.mul fq H.fm1)
    have i2 : Idl p a1 b1 (El.of (pmul (padd (pmul v.y r) (pmul q (padd (pmul m2 e2) (pmul m4 e3)))) a1) (Fn.mul (Fn.add (Fn.mul v.fy H.fr) (Fn.mul fq (Fn.add (Fn.mul H.fm2 H.fe2) (Fn.mul H.fm4 H.fe3)))) H.fa1)) := Idl.a H.fa1 (Fn.add (Fn.mul v.fy H.fr) (Fn.mul fq (Fn.add (Fn.mul H.fm2 H.fe2) (Fn.mul H.fm4 H.fe3))))
    have i3 := Idl.sc (Idl.bs (p := p) (a := a1) H.fb1) (Fn.add (Fn.mul v.fy H.fs) (Fn.mul fq (Fn.add (Fn.mul H.fm3 H.fe3) (Fn.smul (-1) (Fn.mul H.fm2 H.fe1)))))
    have i4 := Idl.sc (Idl.bs (p := p) (a := a1) H.fb1) (Fn.add (Fn.mul v.fy H.ft) (Fn.smul (-1) (Fn.mul fq (Fn.add (Fn.mul H.fm3 H.fe2) (Fn.mul H.fm4 H.fe1)))))
    have j1 : Idl p a2 b2 (El.of (pmul pone a2) (Fn.mul Fn.one H.fa2)) := Idl.a H.fa2 Fn.one
    have j2 := Idl.sc (Idl.bs (p := p) (a := a2) H.fb2) Fn.one
    have j3 := Idl.bs (p := p) (a := a2) H.fb2
    refine .add (.add (.prod i1 j1 (EE.refl _)) (.prod i2 j2 (EE.refl _)) (EE.refl _)) (.add (.prod i3 j1 (EE.refl _)) (.prod i4 j3 (EE.refl _)) (EE.refl _)) ⟨?_, ?_⟩
    · refine Eqp.trans (Eqp.of_eq (show padd (pmul d v.x) (pmul (cf ds) (pmul pzero v.y)) = _ by rw [pzero_mul, pmul_pzero, padd_pzero])) ?_
      refine Eqp.trans (Eqp.linl (pmul d v.x) (padd (padd (pmul (pmul (pmul q m1) a1) (pmul pone a2)) (pmul (pmul (padd (pmul v.y r) (pmul q (padd (pmul m2 e2) (pmul m4 e3)))) a1) (pmul pone b2))) (padd (pmul (pmul (padd (pmul v.y s) (pmul q (padd (pmul m3 e3) (psmul (-1) (pmul m2 e1))))) b1) (pmul pone a2)) (pmul (padd (pmul v.y t) (psmul (-1) (pmul q (padd (pmul m3 e2) (pmul m4 e1))))) (padd (pmul b1 b2) (cf ds))))) [(d, v.x, (padd (pmul B v.y) (pmul q A))), (v.y, (pmul B d), N), (v.y, N, (padd (padd (pmul (pmul r a1) b2) (pmul (pmul s a2) b1)) (pmul t (padd (pmul b1 b2) (cf ds))))), ((pmul d q), A, (pmul e1 e2)), ((pmul (pmul (pmul d q) e1) e2), pone, (padd (pmul m1 d) (padd (pmul m2 (padd b2 (psmul (-1) b1))) (padd (pmul m3 c1) (pmul m4 c2))))), ((psmul (-1) (pmul q (padd (pmul m1 a2) (padd (pmul (pmul m2 e2) b2) (padd (pmul (pmul m3 e2) c1) (pmul (pmul m4 b2) e3)))))), a1, (pmul e1 d)), ((pmul q (padd (pmul (pmul m2 e1) b1) (psmul (-1) (padd (pmul (pmul m1 e1) d) (padd (pmul (pmul m3 b1) e3) (pmul (pmul m4 e1) c2)))))), a2, (pmul e2 d)), ((pmul q (padd (pmul (pmul m3 e2) b1) (pmul (pmul m4 e1) b2))), (padd b1 b2), (pmul e3 d)), ((psmul (-1) (pmul (pmul q m3) e2)), (padd (pmul b1 b1) (psmul (-1) (cf ds))), (pmul c1 a1)), ((psmul (-1) (pmul (pmul q m4) e1)), (padd (pmul b2 b2) (psmul (-1) (cf ds))), (pmul c2 a2))] ⟨hq, H.hB, H.hN, H.kA, H.hm, H.ha1, H.ha2, H.hS, H.h1, H.h2, trivial⟩ (RE.same [a1, a2, b1, b2, (cf ds), t, r, s, d, N, e1, e2, e3, c1, c2, A, B, v.x, v.y, q, m1, m2, m3, m4] (((.v 8) * (.v 17)) + -((((((.v 19) * (.v 20)) * (.v 0)) * (.one * (.v 1))) + (((((.v 18) * (.v 6)) + ((.v 19) * (((.v 21) * (.v 11)) + ((.v 23) * (.v 12))))) * (.v 0)) * (.one * (.v 3)))) + ((((((.v 18) * (.v 7)) + ((.v 19) * (((.v 22) * (.v 12)) + -((.v 21) * (.v 10))))) * (.v 2)) * (.one * (.v 1))) + ((((.v 18) * (.v 5)) + -((.v 19) * (((.v 22) * (.v 11)) + ((.v 23) * (.v 10))))) * (((.v 2) * (.v 3)) + (.v 4)))))) (((.v 8) * ((.v 17) + -(((.v 16) * (.v 18)) + ((.v 19) * (.v 15))))) + (((.v 18) * (((.v 16) * (.v 8)) + -(.v 9))) + (((.v 18) * ((.v 9) + -(((((.v 6) * (.v 0)) * (.v 3)) + (((.v 7) * (.v 1)) * (.v 2))) + ((.v 5) * (((.v 2) * (.v 3)) + (.v 4)))))) + ((((.v 8) * (.v 19)) * ((.v 15) + -((.v 10) * (.v 11)))) + ((((((.v 8) * (.v 19)) * (.v 10)) * (.v 11)) * (.one + -(((.v 20) * (.v 8)) + (((.v 21) * ((.v 3) + -(.v 2))) + (((.v 22) * (.v 13)) + ((.v 23) * (.v 14))))))) + (((-((.v 19) * (((.v 20) * (.v 1)) + ((((.v 21) * (.v 11)) * (.v 3)) + ((((.v 22) * (.v 11)) * (.v 13)) + (((.v 23) * (.v 3)) * (.v 12))))))) * ((.v 0) + -((.v 10) * (.v 8)))) + ((((.v 19) * ((((.v 21) * (.v 10)) * (.v 2)) + -((((.v 20) * (.v 10)) * (.v 8)) + ((((.v 22) * (.v 2)) * (.v 12)) + (((.v 23) * (.v 10)) * (.v 14)))))) * ((.v 1) + -((.v 11) * (.v 8)))) + ((((.v 19) * ((((.v 22) * (.v 11)) * (.v 2)) + (((.v 23) * (.v 10)) * (.v 3)))) * (((.v 2) + (.v 3)) + -((.v 12) * (.v 8)))) + (((-(((.v 19) * (.v 22)) * (.v 11))) * ((((.v 2) * (.v 2)) + -(.v 4)) + -((.v 13) * (.v 0)))) + ((-(((.v 19) * (.v 23)) * (.v 10))) * ((((.v 3) * (.v 3)) + -(.v 4)) + -((.v 14) * (.v 1))))))))))))) (by decide +kernel) rfl rfl)) (Eqp.of_eq ?_)
      show _ = padd (padd (padd _ (pmul (cf ds) (pmul pzero pzero))) (padd _ (pmul (cf ds) (pmul pzero (pmul pone pone))))) (padd (padd _ (pmul (cf ds) (pmul (pmul _ pone) pzero))) (padd (pmul (pmul _ b1) b2) (pmul (cf ds) (pmul (pmul _ pone) pone))))
      simp only [pzero_mul, pmul_pzero, padd_pzero, pmul_one]
      congr 2
      rw [pmul_add, pmul_assoc, pmul_comm (cf ds)]
    · refine Eqp.trans (Eqp.of_eq (show padd (pmul d v.y) (pmul pzero v.x) = _ by rw [pzero_mul, padd_pzero])) ?_
      refine Eqp.trans (Eqp.linl (pmul d v.y) (padd (pmul (pmul (padd (pmul v.y r) (pmul q (padd (pmul m2 e2) (pmul m4 e3)))) a1) pone) (padd (pmul (pmul (padd (pmul v.y s) (pmul q (padd (pmul m3 e3) (psmul (-1) (pmul m2 e1))))) pone) a2) (pmul (padd (pmul v.y t) (psmul (-1) (pmul q (padd (pmul m3 e2) (pmul m4 e1))))) (padd b1 b2)))) [(v.y, d, (padd (padd (pmul r a1) (pmul s a2)) (pmul t (padd b1 b2)))), ((psmul (-1) (pmul q (padd (pmul m2 e2) (pmul m4 e3)))), a1, (pmul e1 d)), ((psmul (-1) (pmul q (padd (pmul m3 e3) (psmul (-1) (pmul m2 e1))))), a2, (pmul e2 d)), ((pmul q (padd (pmul m3 e2) (pmul m4 e1))), (padd b1 b2), (pmul e3 d))] ⟨H.hd, H.ha1, H.ha2, H.hS, trivial⟩ (RE.same [a1, a2, b1, b2, t, r, s, d, e1, e2, e3, v.y, q, m2, m3, m4] (((.v 7) * (.v 11)) + -((((((.v 11) * (.v 5)) + ((.v 12) * (((.v 13) * (.v 9)) + ((.v 15) * (.v 10))))) * (.v 0)) * .one) + ((((((.v 11) * (.v 6)) + ((.v 12) * (((.v 14) * (.v 10)) + -((.v 13) * (.v 8))))) * .one) * (.v 1)) + ((((.v 11) * (.v 4)) + -((.v 12) * (((.v 14) * (.v 9)) + ((.v 15) * (.v 8))))) * ((.v 2) + (.v 3)))))) (((.v 11) * ((.v 7) + -((((.v 5) * (.v 0)) + ((.v 6) * (.v 1))) + ((.v 4) * ((.v 2) + (.v 3)))))) + (((-((.v 12) * (((.v 13) * (.v 9)) + ((.v 15) * (.v 10))))) * ((.v 0) + -((.v 8) * (.v 7)))) + (((-((.v 12) * (((.v 14) * (.v 10)) + -((.v 13) * (.v 8))))) * ((.v 1) + -((.v 9) * (.v 7)))) + (((.v 12) * (((.v 14) * (.v 9)) + ((.v 15) * (.v 8)))) * (((.v 2) + (.v 3)) + -((.v 10) * (.v 7))))))) (by decide +kernel) rfl rfl)) (Eqp.of_eq ?_)
      show _ = padd (padd (padd (pmul _ pzero) (pmul pzero _)) (padd (pmul _ (pmul pone pone)) (pmul pzero _))) (padd (padd (pmul (pmul _ b1) pzero) (pmul (pmul _ pone) (pmul pone a2))) (padd (pmul (pmul _ b1) pone) (pmul (pmul _ pone) b2)))
      simp only [El.of, pzero_mul, pmul_pzero, padd_pzero, pzero_padd, pmul_one, pone_mul, pmul_add]

set_option maxHeartbeats 400000 in
/-- Reduced forms of one class are the same. -/
theorem uniq {p : Int} {ds xs ys xs' ys' : List Int} (H : Dc p ds) (h : Rd p ds xs ys) (h' : Rd p ds xs' ys') (hl : xs.length + xs'.length < ds.length + 1) (E : Eqv p ds (cf xs) (cf ys) (cf xs') (cf ys')) : xs = xs' ∧ ys = ys' := by
  have hp := H.pr
  have hp2 := hp.pos
  obtain ⟨α, β, hα, hβ, k1, k2⟩ := E
  have ne0 : ∀ {l : List Int}, Po p l → l ≠ [] → ¬ Eqp p (cf l) pzero := fun hl hn e => hn (hl.eq_of_eqp (Po_nil (by omega)) (by rw [cf_nil_zero]; exact e))
  have na := ne0 h.xP h.ne
  have na' := ne0 h'.xP h'.ne
  have fa := Fn.cf xs
  have fa' := Fn.cf xs'
  obtain ⟨δ, hδ, e1⟩ := k1 (El.of (pmul pone (cf xs)) (Fn.one.mul fa)) (Idl.a fa Fn.one)
  obtain ⟨δ', hδ', e2⟩ := k2 (El.of (pmul pone (cf xs')) (Fn.one.mul fa')) (Idl.a fa' Fn.one)
  obtain ⟨η, hη, e3⟩ := k1 (El.bs (cf ys) (Fn.cf ys)) (Idl.bs (Fn.cf ys))
  obtain ⟨ζ, hζ, e4⟩ := k2 (El.bs (cf ys') (Fn.cf ys')) (Idl.bs (Fn.cf ys'))
  -- δ δ' = a a'
  have d1 : EE p (El.mul ds δ δ') (El.mul ds (El.of (pmul pone (cf xs)) (Fn.one.mul fa)) (El.of (pmul pone (cf xs')) (Fn.one.mul fa'))) := H.cancel hβ
    ((El.assoc p ds β δ δ').symm.trans ((EE.mul e1.symm (.refl δ')).trans ((El.comm p ds _ _).trans ((El.left_comm p ds δ' α _).trans ((EE.mul (.refl α) (El.comm p ds δ' _)).trans ((El.left_comm p ds α _ δ').trans ((EE.mul (.refl _) e2).trans (El.left_comm p ds _ β _))))))))
  -- a η = δ (b + s), a' ζ = δ' (b' + s)
  have d2 : EE p (El.mul ds (El.of (pmul pone (cf xs)) (Fn.one.mul fa)) η) (El.mul ds δ (El.bs (cf ys) (Fn.cf ys))) := H.cancel hβ
    ((El.left_comm p ds β _ η).trans ((EE.mul (.refl _) e3.symm).trans ((El.left_comm p ds _ α _).trans ((El.assoc p ds α _ _).symm.trans ((EE.mul e1 (.refl _)).trans (El.assoc p ds β δ _))))))
  have d3 : EE p (El.mul ds (El.of (pmul pone (cf xs')) (Fn.one.mul fa')) ζ) (El.mul ds δ' (El.bs (cf ys') (Fn.cf ys'))) := H.cancel hα
    ((El.left_comm p ds α _ ζ).trans ((EE.mul (.refl _) e4).trans ((El.left_comm p ds _ β _).trans ((El.assoc p ds β _ _).symm.trans ((EE.mul e2.symm (.refl _)).trans (El.assoc p ds α δ' _))))))
  clear e1 e2 e3 e4 k1 k2 hα hβ α β
  obtain ⟨q, fq, hq⟩ := hδ
  obtain ⟨r, fr, hr⟩ := hδ'
  obtain ⟨g, fg, hg⟩ := hη
  have x1 : Eqp p (padd (pmul δ.x δ'.x) (pmul (cf ds) (pmul δ.y δ'.y))) (pmul (cf xs) (cf xs')) := d1.x.trans (Eqp.of_eq (by show padd (pmul (pmul pone (cf xs)) (pmul pone (cf xs'))) (pmul (cf ds) (pmul pzero pzero)) = _; rw [pzero_mul, pmul_pzero, padd_pzero, pone_mul, pone_mul]))
  have y1 : Eqp p (padd (pmul δ.x δ'.y) (pmul δ.y δ'.x)) pzero := d1.y.trans (Eqp.of_eq (by show padd (pmul (pmul pone (cf xs)) pzero) (pmul pzero (pmul pone (cf xs'))) = _; rw [pzero_mul, pmul_pzero, padd_pzero]))
  have y2 : Eqp p (pmul (cf xs) η.y) (padd δ.x (pmul δ.y (cf ys))) := (Eqp.of_eq (by show _ = padd (pmul (pmul pone (cf xs)) η.y) (pmul pzero η.x); rw [pzero_mul, padd_pzero, pone_mul])).trans (d2.y.trans (Eqp.of_eq (by show padd (pmul δ.x pone) (pmul δ.y (cf ys)) = _; rw [pmul_one])))
  have x2 : Eqp p (pmul (cf xs) η.x) (padd (pmul δ.x (cf ys)) (pmul (cf ds) δ.y)) := (Eqp.of_eq (by show _ = padd (pmul (pmul pone (cf xs)) η.x) (pmul (cf ds) (pmul pzero η.y)); rw [pzero_mul, pmul_pzero, padd_pzero, pone_mul])).trans (d2.x.trans (Eqp.of_eq (by show padd (pmul δ.x (cf ys)) (pmul (cf ds) (pmul δ.y pone)) = _; rw [pmul_one])))
  have y3 : Eqp p (pmul (cf xs') ζ.y) (padd δ'.x (pmul δ'.y (cf ys'))) := (Eqp.of_eq (by show _ = padd (pmul (pmul pone (cf xs')) ζ.y) (pmul pzero ζ.x); rw [pzero_mul, padd_pzero, pone_mul])).trans (d3.y.trans (Eqp.of_eq (by show padd (pmul δ'.x pone) (pmul δ'.y (cf ys')) = _; rw [pmul_one])))
  -- the second part of δ is 0
  have hY : Eqp p δ.y pzero := by
    refine Classical.byContradiction fun hn => ?_
    obtain ⟨l, l1, l2, _⟩ := δ.fx.list hp
    obtain ⟨m, m1, m2, m3⟩ := δ.fy.list hp
    obtain ⟨n, n1, n2, n3⟩ := δ'.fy.list hp
    have hm := m3 hn
    have key : Eqp p (pmul δ.y (pmul (cf xs) (cf xs'))) (psmul (-1) (pmul δ'.y (padd (pmul δ.x δ.x) (psmul (-1) (pmul (cf ds) (pmul δ.y δ.y)))))) := (Eqp.linl (pmul δ.y (pmul (cf xs) (cf xs'))) (psmul (-1) (pmul δ'.y (padd (pmul δ.x δ.x) (psmul (-1) (pmul (cf ds) (pmul δ.y δ.y)))))) [((psmul (-1) δ.y), (padd (pmul δ.x δ'.x) (pmul (cf ds) (pmul δ.y δ'.y))), (pmul (cf xs) (cf xs'))), (δ.x, (padd (pmul δ.x δ'.y) (pmul δ.y δ'.x)), (psmul 0 pone))] ⟨x1, (y1.trans (Eqp.of_eq (psmul_zero pone).symm)), trivial⟩ (RE.same [(cf ds), (cf xs), (cf xs'), δ.x, δ.y, δ'.x, δ'.y] (((.v 4) * ((.v 1) * (.v 2))) + -(-((.v 6) * (((.v 3) * (.v 3)) + -((.v 0) * ((.v 4) * (.v 4))))))) (((-(.v 4)) * ((((.v 3) * (.v 5)) + ((.v 0) * ((.v 4) * (.v 6)))) + -((.v 1) * (.v 2)))) + ((.v 3) * ((((.v 3) * (.v 6)) + ((.v 4) * (.v 5))) + -(.k 0)))) (by decide +kernel) rfl rfl))
    obtain ⟨N, hN⟩ : ∃ N, addp p (mulp p l l) (mulp p ds (mulp p m m)) (-1) = N := ⟨_, rfl⟩
    have hNe : Eqp p (cf N) (padd (pmul δ.x δ.x) (psmul (-1) (pmul (cf ds) (pmul δ.y δ.y)))) := by
      rw [← hN]
      exact (addp_eqp p _ _ _).trans (Eqp.add ((mulp_eqp p l l).trans (Eqp.mul l2 l2)) (Eqp.smul ((mulp_eqp p _ _).trans (Eqp.mul (Eqp.refl _) ((mulp_eqp p m m).trans (Eqp.mul m2 m2))))))
    have hNP : Po p N := hN ▸ addp_Po (by omega) _ _ _
    have hdn : ds ≠ [] := List.length_pos_iff.1 H.pos
    have hmm := mulp_length hp m1 m1 hm hm
    have hm0 := List.length_pos_iff.2 hm
    have hmmP := mulp_Po (p := p) (by omega) m m
    have hdm := mulp_length hp H.po hmmP hdn (fun e => by rw [e] at hmm; simp at hmm; omega)
    have hNl : N.length ≥ (mulp p ds (mulp p m m)).length := by
      have hne : (mulp p l l).length ≠ (mulp p ds (mulp p m m)).length := by
        have := H.ev
        have := H.pos
        rcases sq_length hp l1 with ⟨_, b⟩ | ⟨_, b⟩ <;> omega
      have := addp_len_ne hp (mulp_Po (p := p) (by omega) l l) (mulp_Po (p := p) (by omega) ds (mulp p m m)) hne
      rw [hN] at this
      omega
    have hd0 := H.pos
    have hx0 := List.length_pos_iff.2 h.ne
    have hx0' := List.length_pos_iff.2 h'.ne
    have hxx := mulp_length hp h.xP h'.xP h.ne h'.ne
    have hxxP := mulp_Po (p := p) (by omega) xs xs'
    have hl1 := mulp_length hp m1 hxxP hm (fun e => by rw [e] at hxx; simp at hxx; omega)
    have e : mulp p m (mulp p xs xs') = scl p (mulp p n N) (-1) := by
      refine (mulp_Po (by omega) _ _).eq_of_eqp (scl_Po (by omega) _ _) ?_
      refine (mulp_eqp p _ _).trans ((Eqp.mul m2 (mulp_eqp p _ _)).trans (key.trans (Eqp.symm ?_)))
      exact (scl_eqp p _ _).trans (Eqp.smul ((mulp_eqp p _ _).trans (Eqp.mul n2 hNe)))
    have hnn : n ≠ [] := fun e1 => by
      rw [e1, mulp_nil] at e
      rw [e] at hl1
      have : (scl p ([] : List Int) (-1)).length ≤ 0 := scl_length_le p [] (-1)
      omega
    have hNn : N ≠ [] := fun e1 => by rw [e1, List.length_nil] at hNl; omega
    have hl2 := mulp_length hp n1 hNP hnn hNn
    have hsc := scl_length_le p (mulp p n N) (-1)
    have hsc2 : (mulp p n N).length ≤ (scl p (mulp p n N) (-1)).length := by
      have h2 := scl_length_le p (scl p (mulp p n N) (-1)) (-1)
      have h3 : scl p (scl p (mulp p n N) (-1)) (-1) = mulp p n N := (scl_Po (by omega) _ _).eq_of_eqp (mulp_Po (by omega) _ _) ((scl_eqp p _ _).trans ((Eqp.smul (scl_eqp p _ _)).trans (Eqp.of_eq (by rw [psmul_psmul]; exact psmul_one _))))
      rwa [h3] at h2
    rw [← e] at hsc hsc2
    have := List.length_pos_iff.2 hnn
    omega
  have nX : ¬ Eqp p δ.x pzero := fun e => by
    have : Eqp p (pmul (cf xs) (cf xs')) pzero := x1.symm.trans (((Eqp.linl (padd (pmul δ.x δ'.x) (pmul (cf ds) (pmul δ.y δ'.y))) (psmul 0 pone) [(δ'.x, δ.x, (psmul 0 pone)), ((pmul (cf ds) δ'.y), δ.y, (psmul 0 pone))] ⟨(e.trans (Eqp.of_eq (psmul_zero pone).symm)), (hY.trans (Eqp.of_eq (psmul_zero pone).symm)), trivial⟩ (RE.same [(cf ds), δ.x, δ.y, δ'.x, δ'.y] ((((.v 1) * (.v 3)) + ((.v 0) * ((.v 2) * (.v 4)))) + -(.k 0)) (((.v 3) * ((.v 1) + -(.k 0))) + (((.v 0) * (.v 4)) * ((.v 2) + -(.k 0)))) (by decide +kernel) rfl rfl))).trans (Eqp.of_eq (psmul_zero pone)))
    exact na' (fcancel hp fa na fa' Fn.zero (this.trans (Eqp.of_eq (pmul_pzero _).symm)))
  have hY' : Eqp p δ'.y pzero := fcancel hp δ.fx nX δ'.fy Fn.zero (((Eqp.linl (pmul δ.x δ'.y) (psmul 0 pone) [(pone, (padd (pmul δ.x δ'.y) (pmul δ.y δ'.x)), (psmul 0 pone)), ((psmul (-1) δ'.x), δ.y, (psmul 0 pone))] ⟨(y1.trans (Eqp.of_eq (psmul_zero pone).symm)), (hY.trans (Eqp.of_eq (psmul_zero pone).symm)), trivial⟩ (RE.same [δ.x, δ.y, δ'.x, δ'.y] (((.v 0) * (.v 3)) + -(.k 0)) ((.one * ((((.v 0) * (.v 3)) + ((.v 1) * (.v 2))) + -(.k 0))) + ((-(.v 2)) * ((.v 1) + -(.k 0)))) (by decide +kernel) rfl rfl))).trans (Eqp.of_eq (by rw [psmul_zero, pmul_pzero])))
  -- q r = 1
  have hx : Eqp p δ.x (pmul q (cf xs')) := (Eqp.linl δ.x (pmul q (cf xs')) [(pone, δ.x, (padd (pmul (cf ys') δ.y) (pmul q (cf xs')))), ((cf ys'), δ.y, (psmul 0 pone))] ⟨hq, (hY.trans (Eqp.of_eq (psmul_zero pone).symm)), trivial⟩ (RE.same [δ.x, δ.y, (cf xs'), (cf ys'), q] ((.v 0) + -((.v 4) * (.v 2))) ((.one * ((.v 0) + -(((.v 3) * (.v 1)) + ((.v 4) * (.v 2))))) + ((.v 3) * ((.v 1) + -(.k 0)))) (by decide +kernel) rfl rfl))
  have hx' : Eqp p δ'.x (pmul r (cf xs)) := (Eqp.linl δ'.x (pmul r (cf xs)) [(pone, δ'.x, (padd (pmul (cf ys) δ'.y) (pmul r (cf xs)))), ((cf ys), δ'.y, (psmul 0 pone))] ⟨hr, (hY'.trans (Eqp.of_eq (psmul_zero pone).symm)), trivial⟩ (RE.same [δ'.x, δ'.y, (cf xs), (cf ys), r] ((.v 0) + -((.v 4) * (.v 2))) ((.one * ((.v 0) + -(((.v 3) * (.v 1)) + ((.v 4) * (.v 2))))) + ((.v 3) * ((.v 1) + -(.k 0)))) (by decide +kernel) rfl rfl))
  have naa : ¬ Eqp p (pmul (cf xs) (cf xs')) pzero := fun e => na' (fcancel hp fa na fa' Fn.zero (e.trans (Eqp.of_eq (pmul_pzero _).symm)))
  have qr : Eqp p (pmul q r) pone := fcancel hp (fa.mul fa') naa (fq.mul fr) Fn.one (Eqp.linl (pmul (pmul (cf xs) (cf xs')) (pmul q r)) (pmul (pmul (cf xs) (cf xs')) pone) [(pone, (padd (pmul δ.x δ'.x) (pmul (cf ds) (pmul δ.y δ'.y))), (pmul (cf xs) (cf xs'))), ((psmul (-1) δ'.x), δ.x, (pmul q (cf xs'))), ((psmul (-1) (pmul q (cf xs'))), δ'.x, (pmul r (cf xs))), ((psmul (-1) (pmul (cf ds) δ'.y)), δ.y, (psmul 0 pone))] ⟨x1, hx, hx', (hY.trans (Eqp.of_eq (psmul_zero pone).symm)), trivial⟩ (RE.same [(cf ds), (cf xs), (cf xs'), δ.x, δ.y, δ'.x, δ'.y, q, r] ((((.v 1) * (.v 2)) * ((.v 7) * (.v 8))) + -(((.v 1) * (.v 2)) * .one)) ((.one * ((((.v 3) * (.v 5)) + ((.v 0) * ((.v 4) * (.v 6)))) + -((.v 1) * (.v 2)))) + (((-(.v 5)) * ((.v 3) + -((.v 7) * (.v 2)))) + (((-((.v 7) * (.v 2))) * ((.v 5) + -((.v 8) * (.v 1)))) + ((-((.v 0) * (.v 6))) * ((.v 4) + -(.k 0)))))) (by decide +kernel) rfl rfl))
  -- each divides the other
  have a1 : Eqp p (cf xs') (pmul (pmul r η.y) (cf xs)) := (Eqp.linl (cf xs') (pmul (pmul r η.y) (cf xs)) [((psmul (-1) (cf xs')), (pmul q r), pone), ((psmul (-1) r), (pmul (cf xs) η.y), (padd δ.x (pmul δ.y (cf ys)))), ((psmul (-1) r), δ.x, (pmul q (cf xs'))), ((psmul (-1) (pmul r (cf ys))), δ.y, (psmul 0 pone))] ⟨qr, y2, hx, (hY.trans (Eqp.of_eq (psmul_zero pone).symm)), trivial⟩ (RE.same [(cf xs), (cf xs'), (cf ys), δ.x, δ.y, η.y, q, r] ((.v 1) + -(((.v 7) * (.v 5)) * (.v 0))) (((-(.v 1)) * (((.v 6) * (.v 7)) + -.one)) + (((-(.v 7)) * (((.v 0) * (.v 5)) + -((.v 3) + ((.v 4) * (.v 2))))) + (((-(.v 7)) * ((.v 3) + -((.v 6) * (.v 1)))) + ((-((.v 7) * (.v 2))) * ((.v 4) + -(.k 0)))))) (by decide +kernel) rfl rfl))
  have a2 : Eqp p (cf xs) (pmul (pmul q ζ.y) (cf xs')) := (Eqp.linl (cf xs) (pmul (pmul q ζ.y) (cf xs')) [((psmul (-1) (cf xs)), (pmul q r), pone), ((psmul (-1) q), (pmul (cf xs') ζ.y), (padd δ'.x (pmul δ'.y (cf ys')))), ((psmul (-1) q), δ'.x, (pmul r (cf xs))), ((psmul (-1) (pmul q (cf ys'))), δ'.y, (psmul 0 pone))] ⟨qr, y3, hx', (hY'.trans (Eqp.of_eq (psmul_zero pone).symm)), trivial⟩ (RE.same [(cf xs), (cf xs'), (cf ys'), δ'.x, δ'.y, ζ.y, q, r] ((.v 0) + -(((.v 6) * (.v 5)) * (.v 1))) (((-(.v 0)) * (((.v 6) * (.v 7)) + -.one)) + (((-(.v 6)) * (((.v 1) * (.v 5)) + -((.v 3) + ((.v 4) * (.v 2))))) + (((-(.v 6)) * ((.v 3) + -((.v 7) * (.v 0)))) + ((-((.v 6) * (.v 2))) * ((.v 4) + -(.k 0)))))) (by decide +kernel) rfl rfl))
  have hs : xs = xs' := by
    obtain ⟨u, u1, u2, _⟩ := (fr.mul η.fy).list hp
    obtain ⟨v, v1, v2, _⟩ := (fq.mul ζ.fy).list hp
    have m1 : xs' = mulp p u xs := h'.xP.eq_of_eqp (mulp_Po (by omega) _ _) (a1.trans ((Eqp.mul u2.symm (Eqp.refl _)).trans (mulp_eqp p _ _).symm))
    have m2 : xs = mulp p v xs' := h.xP.eq_of_eqp (mulp_Po (by omega) _ _) (a2.trans ((Eqp.mul v2.symm (Eqp.refl _)).trans (mulp_eqp p _ _).symm))
    have hun : u ≠ [] := fun e => by rw [e, mulp_nil] at m1; exact h'.ne m1
    have hvn : v ≠ [] := fun e => by rw [e, mulp_nil] at m2; exact h.ne m2
    have l1 := mulp_length hp u1 h.xP hun h.ne
    have l2 := mulp_length hp v1 h'.xP hvn h'.ne
    rw [← m1] at l1
    rw [← m2] at l2
    have u0 := List.length_pos_iff.2 hun
    have v0 := List.length_pos_iff.2 hvn
    refine (monic_same (t := cf u 0) hp h'.xP h.xP (by omega) h'.frm.1 h.frm.1 fun n => ?_).symm
    have hu1 : u.length ≤ 1 := by omega
    rw [m1, mulp_one_cf p (cf u 0) (fun i => short_cf hu1 i) xs n, Int.emod_emod_of_dvd _ (Int.dvd_refl p)]
    rfl
  subst hs
  refine ⟨rfl, ?_⟩
  have hb : Eqp p (cf ys) (padd (cf ys') (pmul (pmul r g) (cf xs))) := fcancel hp fa na (Fn.cf ys) ((Fn.cf ys').add ((fr.mul fg).mul fa)) (Eqp.linl (pmul (cf xs) (cf ys)) (pmul (cf xs) (padd (cf ys') (pmul (pmul r g) (cf xs)))) [((pmul (cf xs) (padd (cf ys') (psmul (-1) (cf ys)))), (pmul q r), pone), ((psmul (-1) (pmul r (cf ys))), δ.x, (pmul q (cf xs))), ((psmul (-1) r), (pmul (cf xs) η.x), (padd (pmul δ.x (cf ys)) (pmul (cf ds) δ.y))), ((pmul r (cf xs)), η.x, (padd (pmul (cf ys') η.y) (pmul g (cf xs)))), ((pmul r (cf ys')), (pmul (cf xs) η.y), (padd δ.x (pmul δ.y (cf ys)))), ((pmul r (cf ys')), δ.x, (pmul q (cf xs))), ((padd (pmul (pmul r (cf ys')) (cf ys)) (psmul (-1) (pmul r (cf ds)))), δ.y, (psmul 0 pone))] ⟨qr, hx, x2, hg, y2, hx, (hY.trans (Eqp.of_eq (psmul_zero pone).symm)), trivial⟩ (RE.same [(cf ds), (cf xs), (cf ys), (cf ys'), δ.x, δ.y, η.x, η.y, q, r, g] (((.v 1) * (.v 2)) + -((.v 1) * ((.v 3) + (((.v 9) * (.v 10)) * (.v 1))))) ((((.v 1) * ((.v 3) + -(.v 2))) * (((.v 8) * (.v 9)) + -.one)) + (((-((.v 9) * (.v 2))) * ((.v 4) + -((.v 8) * (.v 1)))) + (((-(.v 9)) * (((.v 1) * (.v 6)) + -(((.v 4) * (.v 2)) + ((.v 0) * (.v 5))))) + ((((.v 9) * (.v 1)) * ((.v 6) + -(((.v 3) * (.v 7)) + ((.v 10) * (.v 1))))) + ((((.v 9) * (.v 3)) * (((.v 1) * (.v 7)) + -((.v 4) + ((.v 5) * (.v 2))))) + ((((.v 9) * (.v 3)) * ((.v 4) + -((.v 8) * (.v 1)))) + (((((.v 9) * (.v 3)) * (.v 2)) + -((.v 9) * (.v 0))) * ((.v 5) + -(.k 0))))))))) (by decide +kernel) rfl rfl))
  exact cg_unique hp h.xP h.ne h.yP h'.yP h.frm.2.2.1 h'.frm.2.2.1 (by obtain ⟨n, hn⟩ := fr.mul fg; exact ⟨pmul r g, n, hn, hb⟩)
end Go.Proofs.Ytohgjihccjnheab

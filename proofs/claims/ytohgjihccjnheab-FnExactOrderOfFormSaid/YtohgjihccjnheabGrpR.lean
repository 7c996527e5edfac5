/- Powers of a reduced form come to the unit. No program in sight. -/
import Derived.Test.YtohgjihccjnheabGrpQ
import Derived.Test.YtohgjihccjnheabPure
set_option linter.unusedVariables false
set_option linter.unusedSimpArgs false
namespace Go.Proofs.Ytohgjihccjnheab

theorem one_ne {p : Int} (hp : Pr p) : ¬ Eqp p pone pzero := fun h => by
  have hp2 := hp.pos
  have : (1 : Int) % p = 0 % p := h 0
  rw [Int.emod_eq_of_lt (by omega) (by omega), Int.zero_emod] at this
  omega
theorem list_ne {p : Int} (hp : Pr p) {l : List Int} (hl : Po p l) (hn : l ≠ []) : ¬ Eqp p (cf l) pzero := fun e => hn (hl.eq_of_eqp (Po_nil (by have := hp.pos; omega)) (by rw [cf_nil_zero]; exact e))
theorem Eqv.refl {p : Int} (hp : Pr p) (ds : List Int) (a b : PS) : Eqv p ds a b a b :=
  ⟨El.of pone Fn.one, El.of pone Fn.one, fun e => one_ne hp e.x, fun e => one_ne hp e.x, fun z hz => ⟨z, hz, .refl _⟩, fun z hz => ⟨z, hz, .refl _⟩⟩
theorem Rd.fm {p : Int} {ds xs ys : List Int} (h : Rd p ds xs ys) : ∃ c, Fm p ds (cf xs) (cf ys) c := by
  obtain ⟨c, n, hc, e⟩ := h.dv
  exact ⟨c, Fn.cf _, Fn.cf _, ⟨n, hc⟩, list_ne h.pr h.xP h.ne, e⟩
theorem Rd.dc {p : Int} {ds xs ys : List Int} (h : Rd p ds xs ys) : Dc p ds := ⟨h.pr, h.dP, by have := h.dl; omega, by have := h.dl; omega⟩
set_option maxHeartbeats 2000000 in
/-- The next form is of the same class. -/
theorem Rd.eqv_next {p : Int} {ds xs ys : List Int} (h : Rd p ds xs ys) : Eqv p ds (cf xs) (cf ys) (cf (nfa p ds xs ys)) (cf (nfb p ds xs ys)) := by
  have hp := h.pr
  obtain ⟨n1, n2, n3, n4⟩ := h.nfa_spec
  obtain ⟨hq, hne, he, _⟩ := h.quot
  have hi := invp_spec hp (hq.lead hne) (hq.md _).2
  obtain ⟨m, km, fm, hm⟩ := opp_cg hp (ys := ys) n1 n3
  have hB : Eqp p (cf (nfb p ds xs ys)) _ := hm
  have hQ0 : Eqp p (cf (nfa p ds xs ys)) (psmul (invp p (cf (qof p ds xs ys) ((qof p ds xs ys).length - 1))) (cf (qof p ds xs ys))) := scl_eqp p _ _
  have h0 : Eqp p (padd (pmul (cf ys) (cf ys)) (psmul (-1) (cf ds))) (pmul (cf (qof p ds xs ys)) (cf xs)) := (sqd_eqp p ds ys).symm.trans he
  have fQ := Fn.cf (qof p ds xs ys)
  generalize cf (qof p ds xs ys) ((qof p ds xs ys).length - 1) = l at *
  have hL : Eqp p (pmul (psmul l pone) (psmul (invp p l) pone)) pone := (Eqp.of_eq (show _ = psmul (invp p l * l) pone by rw [psmul_pmul, pone_mul, psmul_psmul, Int.mul_comm])).trans fun n => by
    show (invp p l * l * pone n) % p = pone n % p
    rw [Int.mul_emod, hi.2.2, Int.one_mul, Int.emod_emod_of_dvd _ (Int.dvd_refl p)]
  have fL : Fn (psmul l pone) := Fn.one.smul _
  have fLi : Fn (psmul (invp p l) pone) := Fn.one.smul _
  have hQ1 : Eqp p (cf (nfa p ds xs ys)) (pmul (psmul (invp p l) pone) (cf (qof p ds xs ys))) := hQ0.trans (Eqp.of_eq (by rw [psmul_pmul, pone_mul]))
  clear hQ0
  generalize psmul l pone = L at *
  generalize psmul (invp p l) pone = K at *
  generalize cf (qof p ds xs ys) = Q at *
  have hQ : Eqp p Q (pmul L (cf (nfa p ds xs ys))) := (Eqp.linl Q (pmul L (cf (nfa p ds xs ys))) [((psmul (-1) Q), (pmul L K), pone), ((psmul (-1) L), (cf (nfa p ds xs ys)), (pmul K Q))] ⟨hL, hQ1, trivial⟩ (RE.same [L, K, Q, (cf (nfa p ds xs ys))] ((.v 2) + -((.v 0) * (.v 3))) (((-(.v 2)) * (((.v 0) * (.v 1)) + -.one)) + ((-(.v 0)) * ((.v 3) + -((.v 1) * (.v 2))))) (by decide +kernel) rfl rfl))
  have fA := Fn.cf (nfa p ds xs ys)
  have fB := Fn.cf (nfb p ds xs ys)
  have fa := Fn.cf xs
  have fb := Fn.cf ys
  have na := list_ne hp h.xP h.ne
  have fm' : Fn m := ⟨km, fm⟩
  generalize cf (nfa p ds xs ys) = A at *
  generalize cf (nfb p ds xs ys) = B at *
  generalize cf xs = a at *
  generalize cf ys = b at *
  refine ⟨⟨psmul (-1) b, pone, fb.smul _, Fn.one⟩, El.of a fa, fun e => one_ne hp e.y, of_ne fa na, fun z hz => ?_, fun w hw => ?_⟩
  · obtain ⟨q, fq, hq⟩ := hz
    refine ⟨⟨(padd (psmul (-1) (pmul (pmul L A) z.y)) (psmul (-1) (pmul b q))), q, (Fn.add (Fn.smul (-1) (Fn.mul (Fn.mul fL fA) z.fy)) (Fn.smul (-1) (Fn.mul fb fq))), fq⟩, ⟨(padd (psmul (-1) (pmul L z.y)) (psmul (-1) (pmul m q))), (Fn.add (Fn.smul (-1) (Fn.mul fL z.fy)) (Fn.smul (-1) (Fn.mul fm' fq))), (Eqp.linl (padd (psmul (-1) (pmul (pmul L A) z.y)) (psmul (-1) (pmul b q))) (padd (pmul B q) (pmul (padd (psmul (-1) (pmul L z.y)) (psmul (-1) (pmul m q))) A)) [((psmul (-1) q), B, (padd (psmul (-1) b) (pmul m A)))] ⟨hB, trivial⟩ (RE.same [b, A, B, L, m, q, z.y] (((-(((.v 3) * (.v 1)) * (.v 6))) + -((.v 0) * (.v 5))) + -(((.v 2) * (.v 5)) + (((-((.v 3) * (.v 6))) + -((.v 4) * (.v 5))) * (.v 1)))) ((-(.v 5)) * ((.v 2) + -((-(.v 0)) + ((.v 4) * (.v 1))))) (by decide +kernel) rfl rfl))⟩, ⟨?_, ?_⟩⟩
    · refine Eqp.trans ?_ (Eqp.of_eq (show _ = padd (pmul a _) (pmul (cf ds) (pmul pzero _)) by rw [pzero_mul, pmul_pzero, padd_pzero]))
      exact (Eqp.linl (padd (pmul (psmul (-1) b) z.x) (pmul (cf ds) (pmul pone z.y))) (pmul a (padd (psmul (-1) (pmul (pmul L A) z.y)) (psmul (-1) (pmul b q)))) [((psmul (-1) b), z.x, (padd (pmul b z.y) (pmul q a))), ((psmul (-1) z.y), (padd (pmul b b) (psmul (-1) (cf ds))), (pmul Q a)), ((psmul (-1) (pmul z.y a)), Q, (pmul L A))] ⟨hq, h0, hQ, trivial⟩ (RE.same [(cf ds), a, b, A, Q, L, q, z.x, z.y] ((((-(.v 2)) * (.v 7)) + ((.v 0) * (.one * (.v 8)))) + -((.v 1) * ((-(((.v 5) * (.v 3)) * (.v 8))) + -((.v 2) * (.v 6))))) (((-(.v 2)) * ((.v 7) + -(((.v 2) * (.v 8)) + ((.v 6) * (.v 1))))) + (((-(.v 8)) * ((((.v 2) * (.v 2)) + -(.v 0)) + -((.v 4) * (.v 1)))) + ((-((.v 8) * (.v 1))) * ((.v 4) + -((.v 5) * (.v 3)))))) (by decide +kernel) rfl rfl))
    · refine Eqp.trans ?_ (Eqp.of_eq (show _ = padd (pmul a _) (pmul pzero _) by rw [pzero_mul, padd_pzero]))
      exact (Eqp.linl (padd (pmul (psmul (-1) b) z.y) (pmul pone z.x)) (pmul a q) [(pone, z.x, (padd (pmul b z.y) (pmul q a)))] ⟨hq, trivial⟩ (RE.same [a, b, q, z.x, z.y] ((((-(.v 1)) * (.v 4)) + (.one * (.v 3))) + -((.v 0) * (.v 2))) (.one * ((.v 3) + -(((.v 1) * (.v 4)) + ((.v 2) * (.v 0))))) (by decide +kernel) rfl rfl))
  · obtain ⟨q, fq, hq⟩ := hw
    have hLY : Eqp p (pmul L (psmul (-1) (pmul K (padd (pmul m w.y) q)))) (psmul (-1) (padd (pmul m w.y) q)) := (Eqp.linl (pmul L (psmul (-1) (pmul K (padd (pmul m w.y) q)))) (psmul (-1) (padd (pmul m w.y) q)) [((psmul (-1) (padd (pmul m w.y) q)), (pmul L K), pone)] ⟨hL, trivial⟩ (RE.same [L, K, m, w.y, q] (((.v 0) * (-((.v 1) * (((.v 2) * (.v 3)) + (.v 4))))) + -(-(((.v 2) * (.v 3)) + (.v 4)))) ((-(((.v 2) * (.v 3)) + (.v 4))) * (((.v 0) * (.v 1)) + -.one)) (by decide +kernel) rfl rfl))
    have fY : Fn (psmul (-1) (pmul K (padd (pmul m w.y) q))) := (Fn.smul (-1) (Fn.mul fLi (Fn.add (Fn.mul fm' w.fy) fq)))
    generalize (psmul (-1) (pmul K (padd (pmul m w.y) q))) = Y at *
    refine ⟨⟨(padd (pmul a w.y) (pmul b Y)), Y, (Fn.add (Fn.mul fa w.fy) (Fn.mul fb fY)), fY⟩, ⟨w.y, w.fy, (Eqp.of_eq (RE.same [a, b, w.y, Y] (((.v 0) * (.v 2)) + ((.v 1) * (.v 3))) (((.v 1) * (.v 3)) + ((.v 2) * (.v 0))) (by decide +kernel) rfl rfl))⟩, ⟨?_, ?_⟩⟩
    · refine Eqp.trans ?_ (Eqp.of_eq (show _ = padd (pmul a _) (pmul (cf ds) (pmul pzero _)) by rw [pzero_mul, pmul_pzero, padd_pzero]))
      exact (Eqp.linl (padd (pmul (psmul (-1) b) (padd (pmul a w.y) (pmul b Y))) (pmul (cf ds) (pmul pone Y))) (pmul a w.x) [((psmul (-1) Y), (padd (pmul b b) (psmul (-1) (cf ds))), (pmul Q a)), ((psmul (-1) (pmul a Y)), Q, (pmul L A)), ((psmul (-1) (pmul a A)), (pmul L Y), (psmul (-1) (padd (pmul m w.y) q))), ((psmul (-1) a), w.x, (padd (pmul B w.y) (pmul q A))), ((psmul (-1) (pmul a w.y)), B, (padd (psmul (-1) b) (pmul m A)))] ⟨h0, hQ, hLY, hq, hB, trivial⟩ (RE.same [(cf ds), a, b, A, B, Q, L, m, q, w.x, w.y, Y] ((((-(.v 2)) * (((.v 1) * (.v 10)) + ((.v 2) * (.v 11)))) + ((.v 0) * (.one * (.v 11)))) + -((.v 1) * (.v 9))) (((-(.v 11)) * ((((.v 2) * (.v 2)) + -(.v 0)) + -((.v 5) * (.v 1)))) + (((-((.v 1) * (.v 11))) * ((.v 5) + -((.v 6) * (.v 3)))) + (((-((.v 1) * (.v 3))) * (((.v 6) * (.v 11)) + -(-(((.v 7) * (.v 10)) + (.v 8))))) + (((-(.v 1)) * ((.v 9) + -(((.v 4) * (.v 10)) + ((.v 8) * (.v 3))))) + ((-((.v 1) * (.v 10))) * ((.v 4) + -((-(.v 2)) + ((.v 7) * (.v 3))))))))) (by decide +kernel) rfl rfl))
    · refine Eqp.trans ?_ (Eqp.of_eq (show _ = padd (pmul a _) (pmul pzero _) by rw [pzero_mul, padd_pzero]))
      exact (Eqp.of_eq (RE.same [a, b, w.y, Y] (((-(.v 1)) * (.v 3)) + (.one * (((.v 0) * (.v 2)) + ((.v 1) * (.v 3))))) ((.v 0) * (.v 2)) (by decide +kernel) rfl rfl))
theorem red_eqv {p : Int} {ds : List Int} : ∀ (n : Nat) {xs ys : List Int}, Rd p ds xs ys → Eqv p ds (cf xs) (cf ys) (cf (red p ds n xs ys).1) (cf (red p ds n xs ys).2)
  | 0, xs, ys, h => Eqv.refl h.pr ds _ _
  | n + 1, xs, ys, h => by
    by_cases hg : (xs.length : Int) - 1 ≤ gns ds
    · rw [red_stop p ds xs ys _ hg]; exact Eqv.refl h.pr ds _ _
    · rw [red_go p ds xs ys _ hg]
      exact (h.eqv_next).trans h.dc (red_eqv n (h.next hg).1)
theorem Idl.of_cg {p : Int} {a b b' : PS} (h : Cg p a b b') {z : El} (hz : Idl p a b z) : Idl p a b' z := by
  obtain ⟨q, fq, hq⟩ := hz
  obtain ⟨k, n, fk, hk⟩ := h
  exact ⟨padd q (pmul k z.y), fq.add (Fn.mul ⟨n, fk⟩ z.fy), (Eqp.linl z.x (padd (pmul b' z.y) (pmul (padd q (pmul k z.y)) a)) [(pone, z.x, (padd (pmul b z.y) (pmul q a))), (z.y, b, (padd b' (pmul k a)))] ⟨hq, hk, trivial⟩ (RE.same [a, b, b', q, k, z.x, z.y] ((.v 5) + -(((.v 2) * (.v 6)) + (((.v 3) + ((.v 4) * (.v 6))) * (.v 0)))) ((.one * ((.v 5) + -(((.v 1) * (.v 6)) + ((.v 3) * (.v 0))))) + ((.v 6) * ((.v 1) + -((.v 2) + ((.v 4) * (.v 0)))))) (by decide +kernel) rfl rfl))⟩
theorem SP.mono {p : Int} {ds : List Int} {P Q : El → Prop} {u v : El} (h : SP p ds P Q u) (e : EE p v u) : SP p ds P Q v := by
  cases h with
  | prod hx hf k => exact .prod hx hf (e.trans k)
  | add hu hv k => exact .add hu hv (e.trans k)
theorem Cps.of_cg {p : Int} {ds : List Int} {a1 b1 a2 b2 A B B' : PS} {d : El} (C : Cps p ds a1 b1 a2 b2 A B d) (h : Cg p A B B') : Cps p ds a1 b1 a2 b2 A B' d :=
  ⟨C.dn, fun z w hz hw => by obtain ⟨v, hv, e⟩ := C.f1 z w hz hw; exact ⟨v, hv.of_cg h, e⟩, fun v hv => C.f2 v (hv.of_cg h.symm)⟩

theorem cmp_cps {p : Int} {ds a1 b1 a2 b2 : List Int} (S : Sf p ds) (h2 : p ≠ 2) (hf : Rd p ds a1 b1) (hg : Rd p ds a2 b2) : ∃ d, Cps p ds (cf a1) (cf b1) (cf a2) (cf b2) (cf (cmp p ds a1 b1 a2 b2).1) (cf (cmp p ds a1 b1 a2 b2).2) d := by
  have hp := hf.pr
  have hp2 := hp.pos
  have k1 := bez_ok hp hf.xP hg.xP (Or.inl hf.ne)
  have hs := addp_eqp p b1 b2 1
  have hsP := addp_Po (p := p) (by omega) b1 b2 1
  unfold cmp
  generalize bez p a1 a2 = x at *
  obtain ⟨o, u, v⟩ := x
  have k2 := bez_ok hp k1.pd hsP (Or.inl k1.ne)
  simp only at *
  generalize addp p b1 b2 1 = sm at *
  generalize bez p o sm = y at *
  obtain ⟨d, w, t⟩ := y
  simp only at *
  obtain ⟨e1, n1, f1, E1⟩ := k2.da.trans k1.da
  obtain ⟨e2, n2, f2, E2⟩ := k2.da.trans k1.db
  obtain ⟨c1, m1, g1, C1⟩ := hf.dv
  obtain ⟨c2, m2, g2, C2⟩ := hg.dv
  have hNP : Po p (cN p ds a1 b1 a2 b2 (mulp p w u) (mulp p w v) t) := addp_Po (by omega) _ _ _
  have hNe : Eqp p (cf (cN p ds a1 b1 a2 b2 (mulp p w u) (mulp p w v) t)) _ := (addp_eqp p _ _ 1).trans (Eqp.add ((addp_eqp p _ _ 1).trans (Eqp.add ((mulp_eqp p _ _).trans (Eqp.mul (mulp_eqp p _ _) (Eqp.refl _))) (Eqp.smul ((mulp_eqp p _ _).trans (Eqp.mul (mulp_eqp p _ _) (Eqp.refl _))))))
    (Eqp.smul ((mulp_eqp p _ _).trans (Eqp.mul (Eqp.refl _) ((addp_eqp p _ _ 1).trans (Eqp.add (mulp_eqp p _ _) (Eqp.refl _)))))))
  simp only [psmul_one] at hNe hs
  have hr := mulp_eqp p w u
  have hv := mulp_eqp p w v
  generalize cN p ds a1 b1 a2 b2 (mulp p w u) (mulp p w v) t = N at *
  generalize mulp p w u = r at *
  generalize mulp p w v = s at *
  have H : Cmp p ds a1 b1 a2 b2 u v w t r s o d sm N e1 e2 c1 c2 := ⟨⟨_, f1⟩, ⟨_, f2⟩, ⟨_, g1⟩, ⟨_, g2⟩, k1.id, k2.id, hs, hr, hv, hNe, E1, E2, C1, C2⟩
  have fX : ∃ n, Fin0 (padd (pmul (cf r) (padd (cf b2) (psmul (-1) (cf b1)))) (psmul (-1) (pmul (cf t) c1))) n := ⟨_, ((cf_Fin0 r).pmul ((cf_Fin0 b2).padd ((cf_Fin0 b1).psmul _))).padd (((cf_Fin0 t).pmul g1).psmul _)⟩
  have fY : ∃ n, Fin0 (padd (pmul (cf s) (padd (cf b1) (psmul (-1) (cf b2)))) (psmul (-1) (pmul (cf t) c2))) n := ⟨_, ((cf_Fin0 s).pmul ((cf_Fin0 b1).padd ((cf_Fin0 b2).psmul _))).padd (((cf_Fin0 t).pmul g2).psmul _)⟩
  obtain ⟨nX, fX⟩ := fX
  obtain ⟨nY, fY⟩ := fY
  have q1 := quot_eq hp hNP k2.pd k2.ne ((cf_Fin0 b1).padd (f1.pmul fX)) H.n1
  have q2 := quot_eq hp hNP k2.pd k2.ne ((cf_Fin0 b2).padd (f2.pmul fY)) H.n2
  have hBP := (divp_Po hp hNP k2.pd k2.ne).1
  have hBd : Eqp p (pmul (cf (divp p N d).1) (cf d)) (cf N) := (Eqp.mul q1.2 (Eqp.refl _)).trans H.n1.symm
  have q3 := cancel hp k2.pd k2.ne (((cf_Fin0 (divp p N d).1).pmul ((cf_Fin0 b1).padd (cf_Fin0 b2))).padd ((((cf_Fin0 b1).pmul (cf_Fin0 b2)).padd (cf_Fin0 ds)).psmul (-1))) (((cf_Fin0 d).pmul (f1.pmul f2)).pmul (((cf_Fin0 r).pmul g2).padd ((cf_Fin0 s).pmul g1))) (H.n3 hBd)
  -- the first list
  have hddP := mulp_Po (p := p) (by omega) d d
  have hdd := mulp_length hp k2.pd k2.pd k2.ne k2.ne
  have hddn : mulp p d d ≠ [] := fun e => by have := List.length_pos_iff.2 k2.ne; rw [e] at hdd; simp at hdd; omega
  have haP := mulp_Po (p := p) (by omega) a1 a2
  have hal := mulp_length hp hf.xP hg.xP hf.ne hg.ne
  have eA : Eqp p (cf (mulp p a1 a2)) (pmul (pmul e1 e2) (cf (mulp p d d))) := by
    refine (mulp_eqp p _ _).trans ((Eqp.mul E1 E2).trans ((Eqp.of_eq ?_).trans (Eqp.mul (Eqp.refl _) (mulp_eqp p d d).symm)))
    exact (RE.same [cf d, e1, e2] (((.v 1) * (.v 0)) * ((.v 2) * (.v 0))) (((.v 1) * (.v 2)) * ((.v 0) * (.v 0))) (by decide +kernel) rfl rfl)
  have qA := quot_eq hp haP hddP hddn (f1.pmul f2) eA
  have hAP := (divp_Po hp haP hddP hddn).1
  have hAm : mulp p (divp p (mulp p a1 a2) (mulp p d d)).1 (mulp p d d) = mulp p a1 a2 := (mulp_Po (by omega) _ _).eq_of_eqp haP ((mulp_eqp p _ _).trans ((Eqp.mul qA.2 (Eqp.refl _)).trans eA.symm))
  have hla := List.length_pos_iff.2 hf.ne
  have hlb := List.length_pos_iff.2 hg.ne
  obtain ⟨e3, fe3, E3⟩ := k2.db.fn
  have hS : Eqp p (padd (cf b1) (cf b2)) (pmul e3 (cf d)) := hs.symm.trans E3
  have fe1 : Fn e1 := ⟨_, f1⟩
  have fe2 : Fn e2 := ⟨_, f2⟩
  have fc1 : Fn c1 := ⟨_, g1⟩
  have fc2 : Fn c2 := ⟨_, g2⟩
  have nd := list_ne hp k2.pd k2.ne
  obtain ⟨h1, u1, v1, fh1, fu1, fv1, nh1, y1, i1, i2⟩ := comb hp (Fn.cf d) ((Fn.cf b2).add ((Fn.cf b1).smul (-1))) nd
  obtain ⟨h2', u2, v2, fh2, fu2, fv2, nh2, y2, i3, i4⟩ := comb hp fh1 fc1 nh1
  obtain ⟨h3, u3, v3, fh3, fu3, fv3, nh3, y3, i5, i6⟩ := comb hp fh2 fc2 nh2
  have j1 : Dv p h3 (cf d) := (i5.trans i3).trans i1
  have j2 := (i5.trans i3).trans i2
  have j3 := i5.trans i4
  have ja : Dv p h3 (cf a1) := j1.trans (k2.da.trans k1.da)
  have jb : Dv p h3 (cf b1) := by
    obtain ⟨x, fx, ex⟩ := j1.fn
    obtain ⟨y, fy, ey⟩ := j2.fn
    have : Eqp p (padd (cf b1) (cf b1)) (pmul (padd (pmul e3 x) (psmul (-1) y)) h3) := (Eqp.linl (padd (cf b1) (cf b1)) (pmul (padd (pmul e3 x) (psmul (-1) y)) h3) [(pone, (padd (cf b1) (cf b2)), (pmul e3 (cf d))), (e3, (cf d), (pmul x h3)), ((psmul (-1) pone), (padd (cf b2) (psmul (-1) (cf b1))), (pmul y h3))] ⟨hS, ex, ey, trivial⟩ (RE.same [(cf b1), (cf b2), (cf d), e3, x, y, h3] (((.v 0) + (.v 0)) + -((((.v 3) * (.v 4)) + -(.v 5)) * (.v 6))) ((.one * (((.v 0) + (.v 1)) + -((.v 3) * (.v 2)))) + (((.v 3) * ((.v 2) + -((.v 4) * (.v 6)))) + ((-.one) * (((.v 1) + -(.v 0)) + -((.v 5) * (.v 6)))))) (by decide +kernel) rfl rfl))
    exact Dv.of_fn (Fn.smul ((p + 1) / 2) ((fe3.mul fx).add (fy.smul (-1)))) ((half_of hp h2 _).trans ((Eqp.smul this).trans (Eqp.of_eq (psmul_pmul _ _ _).symm)))
  obtain ⟨q, fq, eq⟩ := S.unit fh3 ja jb j3 C1
  have hm : Eqp p pone (padd (pmul (pmul q (pmul u3 (pmul u2 u1))) (cf d)) (padd (pmul (pmul q (pmul u3 (pmul u2 v1))) (padd (cf b2) (psmul (-1) (cf b1)))) (padd (pmul (pmul q (pmul u3 v2)) c1) (pmul (pmul q v3) c2)))) := (Eqp.linl pone (padd (pmul (pmul q (pmul u3 (pmul u2 u1))) (cf d)) (padd (pmul (pmul q (pmul u3 (pmul u2 v1))) (padd (cf b2) (psmul (-1) (cf b1)))) (padd (pmul (pmul q (pmul u3 v2)) c1) (pmul (pmul q v3) c2)))) [((psmul 1 pone), pone, (pmul q h3)), (q, h3, (padd (pmul u3 h2') (pmul v3 c2))), ((pmul q u3), h2', (padd (pmul u2 h1) (pmul v2 c1))), ((pmul q (pmul u3 u2)), h1, (padd (pmul u1 (cf d)) (pmul v1 (padd (cf b2) (psmul (-1) (cf b1))))))] ⟨eq, y3, y2, y1, trivial⟩ (RE.same [(cf b1), (cf b2), (cf d), c1, c2, q, h1, h2', h3, u1, v1, u2, v2, u3, v3] (.one + -((((.v 5) * ((.v 13) * ((.v 11) * (.v 9)))) * (.v 2)) + ((((.v 5) * ((.v 13) * ((.v 11) * (.v 10)))) * ((.v 1) + -(.v 0))) + ((((.v 5) * ((.v 13) * (.v 12))) * (.v 3)) + (((.v 5) * (.v 14)) * (.v 4)))))) (((.k 1) * (.one + -((.v 5) * (.v 8)))) + (((.v 5) * ((.v 8) + -(((.v 13) * (.v 7)) + ((.v 14) * (.v 4))))) + ((((.v 5) * (.v 13)) * ((.v 7) + -(((.v 11) * (.v 6)) + ((.v 12) * (.v 3))))) + (((.v 5) * ((.v 13) * (.v 11))) * ((.v 6) + -(((.v 9) * (.v 2)) + ((.v 10) * ((.v 1) + -(.v 0))))))))) (by decide +kernel) rfl rfl))
  have D0 : CmD p ds (cf a1) (cf b1) c1 (cf a2) (cf b2) c2 (cf (divp p (mulp p a1 a2) (mulp p d d)).1) (cf (divp p N d).1) (cf r) (cf s) (cf t) (cf d) (cf N) e1 e2 e3 (pmul q (pmul u3 (pmul u2 u1))) (pmul q (pmul u3 (pmul u2 v1))) (pmul q (pmul u3 v2)) (pmul q v3) :=
    ⟨Fn.cf _, Fn.cf _, Fn.cf _, Fn.cf _, Fn.cf _, Fn.cf _, Fn.cf _, Fn.cf _, fe1, fe2, fe3, fc1, fc2, Fn.cf _, Fn.cf _, (Fn.mul fq (Fn.mul fu3 (Fn.mul fu2 fu1))), (Fn.mul fq (Fn.mul fu3 (Fn.mul fu2 fv1))), (Fn.mul fq (Fn.mul fu3 fv2)), (Fn.mul fq fv3), nd, H.hd, H.hN, E1, E2, hS, C1, C2, hBd, q1.2, q2.2, q3, qA.2, hm⟩
  refine ⟨_, D0.cps.of_cg ?_⟩
  have hAn : (divp p (mulp p a1 a2) (mulp p d d)).1 ≠ [] := fun e => by
    rw [e, mulp_nil] at hAm
    rw [← hAm] at hal
    simp at hal
    omega
  exact rst_cg hp hBP hAP hAn
/-- A reduced form. -/
def Rdd (p : Int) (ds : List Int) (x : List Int × List Int) : Prop := Rd p ds x.1 x.2 ∧ (x.1.length : Int) - 1 ≤ gns ds
/-- The composition, reduced. -/
def cpr (p : Int) (ds : List Int) (x f : List Int × List Int) : List Int × List Int := red p ds 13 (cmp p ds x.1 x.2 f.1 f.2).1 (cmp p ds x.1 x.2 f.1 f.2).2
theorem Rdd.len {p : Int} {ds : List Int} {x : List Int × List Int} (h : Rdd p ds x) : x.1.length ≤ 3 ∧ x.2.length ≤ 3 := by
  have h1 := h.1.half
  have h2 := h.2
  have h3 := h.1.frm.2.2.1
  omega
theorem cpr_Rdd {p : Int} {ds : List Int} {x f : List Int × List Int} (hx : Rdd p ds x) (hf : Rdd p ds f) : Rdd p ds (cpr p ds x f) := by
  have h := cmp_Rd hx.1 hf.1 hx.len.1 hf.len.1
  exact Rd.red 13 h h.frm.2.1
theorem Rdd.uniq {p : Int} {ds : List Int} {x y : List Int × List Int} (hx : Rdd p ds x) (hy : Rdd p ds y) (E : Eqv p ds (cf x.1) (cf x.2) (cf y.1) (cf y.2)) : x = y := by
  have h := hx.1.half
  have h1 := hx.2
  have h2 := hy.2
  obtain ⟨e1, e2⟩ := Go.Proofs.Ytohgjihccjnheab.uniq hx.1.dc hx.1 hy.1 (by omega) E
  exact Prod.ext e1 e2
theorem cpr_inj {p : Int} {ds : List Int} (S : Sf p ds) (h2 : p ≠ 2) {x y f : List Int × List Int} (hx : Rdd p ds x) (hy : Rdd p ds y) (hf : Rdd p ds f) (h : cpr p ds x f = cpr p ds y f) : x = y := by
  obtain ⟨d, C⟩ := cmp_cps S h2 hx.1 hf.1
  obtain ⟨d', C'⟩ := cmp_cps S h2 hy.1 hf.1
  have hcx := cmp_Rd hx.1 hf.1 hx.len.1 hf.len.1
  have hcy := cmp_Rd hy.1 hf.1 hy.len.1 hf.len.1
  have E1 := red_eqv 13 hcx
  have E2 := red_eqv 13 hcy
  have e : red p ds 13 (cmp p ds x.1 x.2 f.1 f.2).1 (cmp p ds x.1 x.2 f.1 f.2).2 = red p ds 13 (cmp p ds y.1 y.2 f.1 f.2).1 (cmp p ds y.1 y.2 f.1 f.2).2 := h
  rw [e] at E1
  obtain ⟨α, β, nα, nβ, k1, k2⟩ := E1.trans hx.1.dc E2.symm
  obtain ⟨cx, Fx⟩ := hx.1.fm
  obtain ⟨cy, Fy⟩ := hy.1.fm
  obtain ⟨cf', Ff⟩ := hf.1.fm
  obtain ⟨m1, m2, m3, P⟩ := Ff.pm hx.1.pr h2 S
  refine hx.uniq hy ⟨El.mul ds α d', El.mul ds β d, hx.1.dc.mul_ne nα C'.dn, hx.1.dc.mul_ne nβ C.dn, fun v hv => half hx.1.dc C C' Fy P k1 v hv, fun v hv => ?_⟩
  obtain ⟨w, hw, e⟩ := half hx.1.dc C' C Fx P (α := β) (β := α) (fun z hz => by obtain ⟨w, hw, e⟩ := k2 z hz; exact ⟨w, hw, e.symm⟩) v hv
  exact ⟨w, hw, e.symm⟩
theorem unit_Rdd {p : Int} {ds xs ys : List Int} (h : Rd p ds xs ys) : Rdd p ds ([1], []) := by
  have hp2 := h.pr.pos
  have hl := rst_lt h.pr (addp_Po (p := p) (by omega) (mulp p [] []) ds (-1)) (one_Po hp2.1) (by simp)
  refine ⟨⟨h.pr, h.dP, h.dl, one_Po hp2.1, Po_nil (by omega), by simp [cf], by simp, by simp, List.length_eq_zero_iff.1 (by have : (rst p (sqd p ds []) [1]).length < 1 := hl; show (rst p (sqd p ds []) [1]).length = 0; omega)⟩, ?_⟩
  have := h.half
  simp
  omega
theorem cpr_unit {p : Int} {ds : List Int} (S : Sf p ds) (h2 : p ≠ 2) {f : List Int × List Int} (hf : Rdd p ds f) : cpr p ds ([1], []) f = f := by
  have hu := unit_Rdd hf.1
  obtain ⟨d, C⟩ := cmp_cps S h2 hu.1 hf.1
  have hc := cmp_Rd hu.1 hf.1 hu.len.1 hf.len.1
  obtain ⟨c, F⟩ := hf.1.fm
  refine (cpr_Rdd hu hf).uniq hf (Eqv.symm (Eqv.trans hf.1.dc ?_ (red_eqv 13 hc)))
  refine ⟨El.of pone Fn.one, d, of_ne Fn.one (one_ne hf.1.pr), C.dn, fun z hz => ?_, fun v hv => ?_⟩
  · obtain ⟨v, hv, e⟩ := C.f1 (El.of pone Fn.one) z ⟨pone, Fn.one, Eqp.of_eq (by show pone = padd (pmul (cf []) pzero) (pmul pone (cf [1])); rw [pmul_pzero, pzero_padd, cf_one, pmul_one])⟩ hz
    exact ⟨v, hv, e⟩
  · have h := C.f2 v hv
    have key : ∀ u, SP p ds (Idl p (cf ([1] : List Int)) (cf [])) (Idl p (cf f.1) (cf f.2)) u → Idl p (cf f.1) (cf f.2) u := fun u hu => by
      induction hu with
      | @prod x g u hx hg e => exact (hg.mul F x).congr ((El.comm p ds g x).trans e.symm)
      | @add u v t _ _ e ih1 ih2 => exact (ih1.add ih2).congr e.symm
    refine ⟨_, key _ h, ?_⟩
    exact .of_eq (by show padd (pmul pone _) (pmul (cf ds) (pmul pzero _)) = _; rw [pzero_mul, pmul_pzero, padd_pzero, pone_mul]) (by show padd (pmul pone _) (pmul pzero _) = _; rw [pzero_mul, padd_pzero, pone_mul])
/-- The powers. -/
def orb (p : Int) (ds : List Int) (f : List Int × List Int) : Nat → List Int × List Int
  | 0 => ([1], [])
  | n + 1 => cpr p ds (orb p ds f n) f
theorem orb_Rdd {p : Int} {ds : List Int} {f : List Int × List Int} (hf : Rdd p ds f) : ∀ n, Rdd p ds (orb p ds f n)
  | 0 => unit_Rdd hf.1
  | n + 1 => cpr_Rdd (orb_Rdd hf n) hf
theorem orb_back {p : Int} {ds : List Int} (S : Sf p ds) (h2 : p ≠ 2) {f : List Int × List Int} (hf : Rdd p ds f) : ∀ i k, orb p ds f i = orb p ds f (i + k) → orb p ds f k = ([1], [])
  | 0, k, h => by rw [Nat.zero_add] at h; exact h.symm
  | i + 1, k, h => orb_back S h2 hf i k (cpr_inj S h2 (orb_Rdd hf i) (orb_Rdd hf (i + k)) hf (by rw [show i + 1 + k = i + k + 1 by omega] at h; exact h))
/-- The powers come to the unit. -/
theorem orb_end {p : Int} {ds : List Int} (S : Sf p ds) (h2 : p ≠ 2) {f : List Int × List Int} (hf : Rdd p ds f) : ∃ k, orb p ds f (k + 1) = ([1], []) := by
  have hp2 := hf.1.pr.pos
  obtain ⟨N, hN⟩ : ∃ N : Nat, (N : Int) = p ^ 3 := ⟨(p ^ 3).toNat, Int.toNat_of_nonneg (by have := Int.pow_pos (n := p) (m := 3) (by omega); omega)⟩
  have hx : ∀ i, ∃ a b : Nat, (a : Int) = num p (orb p ds f i).1 ∧ (b : Int) = num p (orb p ds f i).2 ∧ a < N ∧ b < N := fun i => by
    have h := orb_Rdd hf i
    have l1 := num_lt hp2.1 _ 3 h.1.xP.md h.len.1
    have l2 := num_lt hp2.1 _ 3 h.1.yP.md h.len.2
    exact ⟨(num p (orb p ds f i).1).toNat, (num p (orb p ds f i).2).toNat, by omega, by omega, by omega, by omega⟩
  let A : Nat → Nat := fun i => (num p (orb p ds f i).1).toNat
  let B : Nat → Nat := fun i => (num p (orb p ds f i).2).toNat
  have hA : ∀ i, (A i : Int) = num p (orb p ds f i).1 ∧ (B i : Int) = num p (orb p ds f i).2 ∧ A i < N ∧ B i < N := fun i => by
    obtain ⟨a, b, h1, h2, h3, h4⟩ := hx i
    refine ⟨?_, ?_, ?_, ?_⟩ <;> simp only [A, B] <;> omega
  obtain ⟨i, j, hij, _, e⟩ := pigeon (N * N) (fun i => A i * N + B i) (fun i _ => by
    obtain ⟨_, _, h3, h4⟩ := hA i
    have : (A i + 1) * N ≤ N * N := Nat.mul_le_mul_right N h3
    rw [Nat.add_mul] at this
    show A i * N + B i < N * N
    omega)
  have e' : A i * N + B i = A j * N + B j := e
  obtain ⟨a1, b1, a2, b2⟩ := hA i
  obtain ⟨a3, b3, a4, b4⟩ := hA j
  have hN0 : 0 < N := by omega
  have eA : A i = A j := by
    have h1 : (A i * N + B i) / N = A i := by rw [Nat.add_comm, Nat.add_mul_div_right _ _ hN0, Nat.div_eq_of_lt b2, Nat.zero_add]
    have h2 : (A j * N + B j) / N = A j := by rw [Nat.add_comm, Nat.add_mul_div_right _ _ hN0, Nat.div_eq_of_lt b4, Nat.zero_add]
    rw [← h1, ← h2, e']
  have eB : B i = B j := by rw [eA] at e'; omega
  have e1 : (orb p ds f i).1 = (orb p ds f j).1 := (orb_Rdd hf i).1.xP.ext (orb_Rdd hf j).1.xP (num_inj hp2.1 _ _ (orb_Rdd hf i).1.xP.md (orb_Rdd hf j).1.xP.md (by rw [← a1, ← a3, eA]))
  have e2 : (orb p ds f i).2 = (orb p ds f j).2 := (orb_Rdd hf i).1.yP.ext (orb_Rdd hf j).1.yP (num_inj hp2.1 _ _ (orb_Rdd hf i).1.yP.md (orb_Rdd hf j).1.yP.md (by rw [← b1, ← b3, eB]))
  have e3 : orb p ds f i = orb p ds f (i + (j - i)) := by rw [show i + (j - i) = j by omega]; exact Prod.ext e1 e2
  have := orb_back S h2 hf i (j - i) e3
  exact ⟨j - i - 1, by rw [show j - i - 1 + 1 = j - i by omega]; exact this⟩
theorem orb_one {p : Int} {ds : List Int} (S : Sf p ds) (h2 : p ≠ 2) {f : List Int × List Int} (hf : Rdd p ds f) : orb p ds f 1 = f := cpr_unit S h2 hf
end Go.Proofs.Ytohgjihccjnheab

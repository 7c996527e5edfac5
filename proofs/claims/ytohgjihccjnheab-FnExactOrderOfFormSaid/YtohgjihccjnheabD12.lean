/- Walks: composition of forms, the reference's side. -/
import Derived.Test.YtohgjihccjnheabD11
set_option linter.unusedVariables false
set_option linter.unusedSimpArgs false
namespace Go.Proofs.Ytohgjihccjnheab
open Go.RowKit
/-- The parts of a composition. -/
structure CP (p : Int) (ds a1 b1 a2 b2 sm o u v d w t r s sq pr A RO bo ra t1 sa t2 top bd la N BQ BR RB : List Int) : Prop where
  e_sm : addp p b1 b2 1 = sm
  e_b1 : bez p a1 a2 = (o, u, v)
  e_b2 : bez p o sm = (d, w, t)
  e_r : mulp p w u = r
  e_s : mulp p w v = s
  e_sq : mulp p d d = sq
  e_pr : mulp p a1 a2 = pr
  e_A : divp p pr sq = (A, RO)
  e_bo : mulp p b1 b2 = bo
  e_ra : mulp p r a1 = ra
  e_t1 : mulp p ra b2 = t1
  e_sa : mulp p s a2 = sa
  e_t2 : mulp p sa b1 = t2
  e_top : addp p t1 t2 1 = top
  e_bd : addp p bo ds 1 = bd
  e_la : mulp p t bd = la
  e_N : addp p top la 1 = N
  e_B : divp p N d = (BQ, BR)
  e_R : rst p BQ A = RB
  p_ds : P64 p ds
  p_a1 : P64 p a1
  p_b1 : P64 p b1
  p_a2 : P64 p a2
  p_b2 : P64 p b2
  p_sm : P64 p sm
  p_o : P64 p o
  p_u : P64 p u
  p_v : P64 p v
  p_d : P64 p d
  p_w : P64 p w
  p_t : P64 p t
  p_r : P64 p r
  p_s : P64 p s
  p_sq : P64 p sq
  p_pr : P64 p pr
  p_A : P64 p A
  p_RO : P64 p RO
  p_bo : P64 p bo
  p_ra : P64 p ra
  p_t1 : P64 p t1
  p_sa : P64 p sa
  p_t2 : P64 p t2
  p_top : P64 p top
  p_bd : P64 p bd
  p_la : P64 p la
  p_N : P64 p N
  p_BQ : P64 p BQ
  p_BR : P64 p BR
  p_RB : P64 p RB
  n_a1 : a1 ≠ []
  n_a2 : a2 ≠ []
  n_o : o ≠ []
  n_d : d ≠ []
  n_sq : sq ≠ []
  n_A : A ≠ []
  rd : Rd p ds A RB
  cmp : cmp p ds a1 b1 a2 b2 = (A, RB)

theorem cmp_parts {p : Int} {ds a1 b1 a2 b2 : List Int} (hx : Rdd p ds (a1, b1)) (hy : Rdd p ds (a2, b2)) : ∃ sm o u v d w t r s sq pr A RO bo ra t1 sa t2 top bd la N BQ BR RB, CP p ds a1 b1 a2 b2 sm o u v d w t r s sq pr A RO bo ra t1 sa t2 top bd la N BQ BR RB := by
  have hp := hx.1.pr
  have hp2 := hp.pos
  have L1 : a1.length ≤ 3 ∧ b1.length ≤ 3 := hx.len
  have L2 : a2.length ≤ 3 ∧ b2.length ≤ 3 := hy.len
  have hR : Rd p ds (cmp p ds a1 b1 a2 b2).1 (cmp p ds a1 b1 a2 b2).2 := cmp_Rd hx.1 hy.1 L1.1 L2.1
  have na1 : a1 ≠ [] := hx.1.ne
  have na2 : a2 ≠ [] := hy.1.ne
  have pa1 : P64 p a1 := hx.1.x64
  have pb1 : P64 p b1 := hx.1.y64
  have pa2 : P64 p a2 := hy.1.x64
  have pb2 : P64 p b2 := hy.1.y64
  have hdl : ds.length ≤ 6 := by have := hx.1.dl; omega
  have hds := hx.1.d64
  have k1 := bez_ok hp pa1.po pa2.po (Or.inl na1)
  have l1 := bez_len hp pa1.po pa2.po (Or.inl na1) pa1.le pa2.le
  have hsm : P64 p (addp p b1 b2 1) := P64.addp pb1 pb2 1
  have lsm := addp_length p b1 b2 1
  obtain ⟨C, hC⟩ : ∃ C, cmp p ds a1 b1 a2 b2 = C := ⟨_, rfl⟩
  have hC' := hC
  rw [hC'] at hR
  unfold cmp at hC
  obtain ⟨o, u, v, eb1⟩ : ∃ o u v, bez p a1 a2 = (o, u, v) := ⟨_, _, _, rfl⟩
  obtain ⟨sm, esm⟩ : ∃ sm, addp p b1 b2 1 = sm := ⟨_, rfl⟩
  rw [eb1] at k1 l1 hC
  rw [esm] at hsm lsm hC
  simp only at k1 l1 hC
  have k2 := bez_ok hp k1.pd hsm.po (Or.inl k1.ne)
  have l2 := bez_len hp k1.pd hsm.po (Or.inl k1.ne) (by omega) hsm.le
  obtain ⟨d, w, t, eb2⟩ : ∃ d w t, bez p o sm = (d, w, t) := ⟨_, _, _, rfl⟩
  rw [eb2] at k2 l2 hC
  simp only at k2 l2 hC
  have po : P64 p o := ⟨hp, k1.pd, by omega⟩
  have pu : P64 p u := ⟨hp, k1.pu, by omega⟩
  have pv : P64 p v := ⟨hp, k1.pv, by omega⟩
  have pd : P64 p d := ⟨hp, k2.pd, by omega⟩
  have pw : P64 p w := ⟨hp, k2.pu, by omega⟩
  have pt : P64 p t := ⟨hp, k2.pv, by omega⟩
  have mul : ∀ {x y : List Int} {n : Nat}, x.length + y.length ≤ n → n ≤ 64 → P64 p (mulp p x y) ∧ (mulp p x y).length ≤ n := fun {x y n} h1 h2 =>
    ⟨⟨hp, mulp_Po (by omega) _ _, Nat.le_trans (mulp_length_le p x y) (by omega)⟩, Nat.le_trans (mulp_length_le p x y) h1⟩
  unfold cA cN at hC
  obtain ⟨r, er⟩ : ∃ r, mulp p w u = r := ⟨_, rfl⟩
  obtain ⟨s, es⟩ : ∃ q, mulp p w v = q := ⟨_, rfl⟩
  obtain ⟨sq, esq⟩ : ∃ q, mulp p d d = q := ⟨_, rfl⟩
  obtain ⟨pr, epr⟩ : ∃ q, mulp p a1 a2 = q := ⟨_, rfl⟩
  obtain ⟨bo, ebo⟩ : ∃ q, mulp p b1 b2 = q := ⟨_, rfl⟩
  have mr := mul (x := w) (y := u) (n := 12) (by omega) (by omega)
  have ms := mul (x := w) (y := v) (n := 12) (by omega) (by omega)
  have msq := mul (x := d) (y := d) (n := 12) (by omega) (by omega)
  have mpr := mul (x := a1) (y := a2) (n := 12) (by omega) (by omega)
  have mbo := mul (x := b1) (y := b2) (n := 12) (by omega) (by omega)
  have hsqn : mulp p d d ≠ [] := fun e => by
    have h1 := mulp_length hp pd.po pd.po k2.ne k2.ne
    have h2 := List.length_pos_iff.2 k2.ne
    rw [e] at h1; simp at h1; omega
  rw [er] at mr hC
  rw [es] at ms hC
  rw [esq] at msq hsqn hC
  rw [epr] at mpr hC
  rw [ebo] at mbo hC
  obtain ⟨A, RO, eA⟩ : ∃ A RO, divp p pr sq = (A, RO) := ⟨_, _, rfl⟩
  obtain ⟨ra, era⟩ : ∃ q, mulp p r a1 = q := ⟨_, rfl⟩
  obtain ⟨sa, esa⟩ : ∃ q, mulp p s a2 = q := ⟨_, rfl⟩
  have mra := mul (x := r) (y := a1) (n := 15) (by omega) (by omega)
  have msa := mul (x := s) (y := a2) (n := 15) (by omega) (by omega)
  have pA := P64.quot mpr.1 msq.1 hsqn
  have pRO := P64.rest mpr.1 msq.1 hsqn
  rw [eA] at pA pRO hC
  rw [era] at mra hC
  rw [esa] at msa hC
  obtain ⟨t1, et1⟩ : ∃ q, mulp p ra b2 = q := ⟨_, rfl⟩
  obtain ⟨t2, et2⟩ : ∃ q, mulp p sa b1 = q := ⟨_, rfl⟩
  have mt1 := mul (x := ra) (y := b2) (n := 18) (by omega) (by omega)
  have mt2 := mul (x := sa) (y := b1) (n := 18) (by omega) (by omega)
  rw [et1] at mt1 hC
  rw [et2] at mt2 hC
  obtain ⟨top, etop⟩ : ∃ q, addp p t1 t2 1 = q := ⟨_, rfl⟩
  obtain ⟨bd, ebd⟩ : ∃ q, addp p bo ds 1 = q := ⟨_, rfl⟩
  have ptop := P64.addp mt1.1 mt2.1 1
  have pbd := P64.addp mbo.1 hds 1
  have lbd := addp_length p bo ds 1
  rw [etop] at ptop hC
  rw [ebd] at pbd lbd hC
  obtain ⟨la, ela⟩ : ∃ q, mulp p t bd = q := ⟨_, rfl⟩
  have mla := mul (x := t) (y := bd) (n := 20) (by omega) (by omega)
  rw [ela] at mla hC
  obtain ⟨N, eN⟩ : ∃ q, addp p top la 1 = q := ⟨_, rfl⟩
  have pN := P64.addp ptop mla.1 1
  rw [eN] at pN hC
  obtain ⟨BQ, BR, eB⟩ : ∃ A RO, divp p N d = (A, RO) := ⟨_, _, rfl⟩
  have pBQ := P64.quot pN pd k2.ne
  have pBR := P64.rest pN pd k2.ne
  rw [eB] at pBQ pBR hC
  subst hC
  exact ⟨sm, o, u, v, d, w, t, r, s, sq, pr, A, RO, bo, ra, t1, sa, t2, top, bd, la, N, BQ, BR, _, ⟨esm, eb1, eb2, er, es, esq, epr, eA, ebo, era, et1, esa, et2, etop, ebd, ela, eN, eB, rfl, hds, pa1, pb1, pa2, pb2, hsm, po, pu, pv, pd, pw, pt, mr.1, ms.1, msq.1, mpr.1, pA, pRO, mbo.1, mra.1, mt1.1, msa.1, mt2.1, ptop, pbd, mla.1, pN, pBQ, pBR, hR.y64, na1, na2, k1.ne, k2.ne, hsqn, hR.ne, hR, hC'⟩⟩

set_option maxRecDepth 20000 in
set_option maxHeartbeats 2000000 in
theorem l07Product_any (p : Int) (xs ys zs : List Int) (w : World) (hx : P64 p xs) (hy : P64 p ys) (hz : P64 p zs) (hl : P64 p (mulp p xs ys)) (hl2 : P64 p (mulp p (mulp p xs ys) zs)) :
    Calls Try.prog 59 #[.int .i64 p, .agg (u8s 64 (cf xs)), .agg (u8s 64 (cf ys)), .agg (u8s 64 (cf zs))] w fun e w' => e = .returned (.agg (u8s 64 (cf (mulp p (mulp p xs ys) zs)))) ∧ Below w.heap.size w w' := by
  obtain ⟨M, hM⟩ : ∃ M, mulp p xs ys = M := ⟨_, rfl⟩
  have k1 := fun w => l01Times_in xs ys p w hx hy hl.le
  rw [hM] at k1 hl hl2 ⊢
  have k2 := fun w => l01Times_in M zs p w hl hz hl2.le
  obtain ⟨M2, hM2⟩ : ∃ M2, mulp p M zs = M2 := ⟨_, rfl⟩
  rw [hM2] at k2 ⊢
  have k1H := Lib.hid k1
  have k2H := Lib.hid k2
  clear hM hM2 k1 k2 hl hl2 hx hy hz
  obtain ⟨hb, hA, hB, hC, hZ⟩ := boxes4 w (u8s 64 (cf xs)) (u8s 64 (cf ys)) (u8s 64 (cf zs)) (u8s 64 fun _ => 0) 27 27 27 27
  go_enter Try.func59, Try.ntmps59
  go_wp2_with ((with_reducible refine wpl_guard ?_); first | (refine wpl_alloc_arr rfl 27 rfl _ zPoly ?_) | (refine wpl_load_arr rfl 27 _ rfl _ rfl _ _ hA _ _ uPoly sPoly ?_) | (refine wpl_load_arr rfl 27 _ rfl _ rfl _ _ hB _ _ uPoly sPoly ?_))
  refine (k1H.out _).mono ?_
  rintro e u1 ⟨rfl, hn⟩
  replace hA := hA.keep hn
  replace hB := hB.keep hn
  replace hC := hC.keep hn
  replace hZ := hZ.keep hn
  replace hb := below_step hb hn
  clear hn
  go_upto_region 2 with ((with_reducible refine wpl_guard ?_); first | (refine wpl_new1 27 zPoly sPoly _ _ rfl rfl rfl rfl rfl rfl _ rfl ?_; intro z1 hn hN1; replace hA := hA.keep hn; replace hB := hB.keep hn; replace hC := hC.keep hn; replace hZ := hZ.keep hn; replace hb := below_step hb hn; clear hn))
  go_wp2_with ((with_reducible refine wpl_guard ?_); first | (refine wpl_load_arr rfl 27 _ rfl _ rfl _ _ hN1 _ _ uPoly sPoly ?_) | (refine wpl_load_arr rfl 27 _ rfl _ rfl _ _ hC _ _ uPoly sPoly ?_))
  refine (k2H.out _).mono ?_
  rintro e u2 ⟨rfl, hn⟩
  replace hA := hA.keep hn
  replace hB := hB.keep hn
  replace hC := hC.keep hn
  replace hZ := hZ.keep hn
  replace hN1 := hN1.keep hn
  replace hb := below_step hb hn
  clear hn
  go_upto_region 3 with ((with_reducible refine wpl_guard ?_); first | (refine wpl_new1 27 zPoly sPoly _ _ rfl rfl rfl rfl rfl rfl _ rfl ?_; intro z2 hn hN2; replace hA := hA.keep hn; replace hB := hB.keep hn; replace hC := hC.keep hn; replace hZ := hZ.keep hn; replace hN1 := hN1.keep hn; replace hb := below_step hb hn; clear hn))
  go_wp2_with ((with_reducible refine wpl_guard ?_); first | (refine wpl_load_arr rfl 27 _ rfl _ rfl _ _ hN2 _ _ uPoly sPoly ?_) | (refine wpl_store_arr rfl 27 _ _ rfl _ rfl _ rfl _ _ hZ sPoly (by simp only [u8s_size]) (u8s_oneCell _ _) ?_))
  exact bodyPost_ret (res_c rfl rfl (hZ.setRow_same (cs := u8s 64 (cf M2))) uPoly sPoly) rfl ⟨rfl, below_setRow hb (by omega) _⟩

set_option maxRecDepth 20000 in
set_option maxHeartbeats 2000000 in
theorem l07Compose_any (p : Int) (ds a1 b1 a2 b2 : List Int) (w : World) (hx : Rdd p ds (a1, b1)) (hy : Rdd p ds (a2, b2)) :
    Calls Try.prog 30 #[.int .i64 p, .agg (u8s 64 (cf ds)), .agg (u8s 128 (fmF (cf a1) (cf b1))), .agg (u8s 128 (fmF (cf a2) (cf b2)))] w fun e w' => e = .returned (.agg (u8s 128 (fmF (cf (cpr p ds (a1, b1) (a2, b2)).1) (cf (cpr p ds (a1, b1) (a2, b2)).2)))) ∧ Below w.heap.size w w' := by
  obtain ⟨sm, o, u, v, d, ww, t, r, s, sq, pr, A, RO, bo, ra, t1, sa, t2, top, bd, la, N, BQ, BR, RB, P⟩ := cmp_parts hx hy
  have c_red := fun w => l07Reduce_any p ds A RB w P.rd
  have hcp : cpr p ds (a1, b1) (a2, b2) = red p ds 13 A RB := by unfold cpr; rw [show cmp p ds (a1, b1).1 (a1, b1).2 (a2, b2).1 (a2, b2).2 = (A, RB) from P.cmp]
  rw [hcp]
  obtain ⟨R1, hR1⟩ : ∃ R, (red p ds 13 A RB).1 = R := ⟨_, rfl⟩
  obtain ⟨R2, hR2⟩ : ∃ R, (red p ds 13 A RB).2 = R := ⟨_, rfl⟩
  rw [hR1, hR2] at c_red ⊢
  have c_sm := fun w => l01Add_list b1 b2 p 1 w P.p_b1 P.p_b2 (by decide) (by decide)
  rw [P.e_sm] at c_sm
  replace c_sm := Lib.hid c_sm
  have c_b1 := fun w => l01Bezout_any a1 a2 p w P.p_a1 P.p_a2 (Or.inl P.n_a1)
  rw [P.e_b1] at c_b1
  replace c_b1 := Lib.hid c_b1
  have c_b2 := fun w => l01Bezout_any o sm p w P.p_o P.p_sm (Or.inl P.n_o)
  rw [P.e_b2] at c_b2
  replace c_b2 := Lib.hid c_b2
  have c_r := fun w => l01Times_in ww u p w P.p_w P.p_u (P.e_r ▸ P.p_r.le)
  rw [P.e_r] at c_r
  replace c_r := Lib.hid c_r
  have c_s := fun w => l01Times_in ww v p w P.p_w P.p_v (P.e_s ▸ P.p_s.le)
  rw [P.e_s] at c_s
  replace c_s := Lib.hid c_s
  have c_sq := fun w => l01Times_in d d p w P.p_d P.p_d (P.e_sq ▸ P.p_sq.le)
  rw [P.e_sq] at c_sq
  replace c_sq := Lib.hid c_sq
  have c_pr := fun w => l01Times_in a1 a2 p w P.p_a1 P.p_a2 (P.e_pr ▸ P.p_pr.le)
  rw [P.e_pr] at c_pr
  replace c_pr := Lib.hid c_pr
  have c_A := fun w => l01Divide_any pr sq p w P.p_pr P.p_sq P.n_sq
  rw [P.e_A] at c_A
  replace c_A := Lib.hid c_A
  have c_bo := fun w => l01Times_in b1 b2 p w P.p_b1 P.p_b2 (P.e_bo ▸ P.p_bo.le)
  rw [P.e_bo] at c_bo
  replace c_bo := Lib.hid c_bo
  have c_t1 := fun w => l07Product_any p r a1 b2 w P.p_r P.p_a1 P.p_b2 (by rw [P.e_ra]; exact P.p_ra) (by rw [P.e_ra, P.e_t1]; exact P.p_t1)
  rw [P.e_ra, P.e_t1] at c_t1
  replace c_t1 := Lib.hid c_t1
  have c_t2 := fun w => l07Product_any p s a2 b1 w P.p_s P.p_a2 P.p_b1 (by rw [P.e_sa]; exact P.p_sa) (by rw [P.e_sa, P.e_t2]; exact P.p_t2)
  rw [P.e_sa, P.e_t2] at c_t2
  replace c_t2 := Lib.hid c_t2
  have c_top := fun w => l01Add_list t1 t2 p 1 w P.p_t1 P.p_t2 (by decide) (by decide)
  rw [P.e_top] at c_top
  replace c_top := Lib.hid c_top
  have c_bd := fun w => l01Add_list bo ds p 1 w P.p_bo P.p_ds (by decide) (by decide)
  rw [P.e_bd] at c_bd
  replace c_bd := Lib.hid c_bd
  have c_la := fun w => l01Times_in t bd p w P.p_t P.p_bd (P.e_la ▸ P.p_la.le)
  rw [P.e_la] at c_la
  replace c_la := Lib.hid c_la
  have c_N := fun w => l01Add_list top la p 1 w P.p_top P.p_la (by decide) (by decide)
  rw [P.e_N] at c_N
  replace c_N := Lib.hid c_N
  have c_B := fun w => l01Divide_any N d p w P.p_N P.p_d P.n_d
  rw [P.e_B] at c_B
  replace c_B := Lib.hid c_B
  have c_R := fun w => l01Mod_any BQ A p w P.p_BQ P.p_A P.n_A
  rw [P.e_R] at c_R
  replace c_R := Lib.hid c_R
  replace c_red := Lib.hid c_red
  clear P hcp hR1 hR2 hx hy
  obtain ⟨hb, hD, hF, hG, hZ⟩ := boxes4 w (u8s 64 (cf ds)) (u8s 128 (fmF (cf a1) (cf b1))) (u8s 128 (fmF (cf a2) (cf b2))) (u8s 128 fun _ => 0) 27 30 30 30
  go_enter Try.func30, Try.ntmps30
  go_wp2_with ((with_reducible refine wpl_guard ?_); first | (refine wpl_alloc_arr rfl 30 rfl _ zForm ?_) | (refine wpl_load_B rfl 27 _ rfl _ rfl 5 _ _ _ hF uPoly sPoly ?_) | (refine wpl_load_B rfl 27 _ rfl _ rfl 5 _ _ _ hG uPoly sPoly ?_))
  refine (c_sm.out _).mono ?_
  rintro e u1 ⟨rfl, hn⟩
  replace hD := hD.keep hn
  replace hF := hF.keep hn
  replace hG := hG.keep hn
  replace hZ := hZ.keep hn
  replace hb := below_step hb hn
  clear hn
  go_upto_region 2 with ((with_reducible refine wpl_guard ?_); first | (refine wpl_new1 27 zPoly sPoly _ _ rfl rfl rfl rfl rfl rfl _ rfl ?_; intro z2 hn h9; replace hD := hD.keep hn; replace hF := hF.keep hn; replace hG := hG.keep hn; replace hZ := hZ.keep hn; replace hb := below_step hb hn; clear hn))
  go_wp2_with ((with_reducible refine wpl_guard ?_); first | (refine wpl_load_A rfl 27 _ rfl _ rfl 5 _ _ _ hF uPoly sPoly ?_) | (refine wpl_load_A rfl 27 _ rfl _ rfl 5 _ _ _ hG uPoly sPoly ?_))
  refine (c_b1.out _).mono ?_
  rintro e u2 ⟨rfl, hn⟩
  replace hD := hD.keep hn
  replace hF := hF.keep hn
  replace hG := hG.keep hn
  replace hZ := hZ.keep hn
  replace h9 := h9.keep hn
  replace hb := below_step hb hn
  clear hn
  go_upto_region 3 with ((with_reducible refine wpl_guard ?_); first | (refine wpl_new3 27 zPoly sPoly _ _ rfl rfl rfl rfl rfl _ _ rfl rfl rfl rfl rfl _ _ rfl rfl rfl rfl rfl rfl _ rfl rfl _ rfl rfl _ rfl ?_; intro z3 hn h10 h11 h12; replace hD := hD.keep hn; replace hF := hF.keep hn; replace hG := hG.keep hn; replace hZ := hZ.keep hn; replace h9 := h9.keep hn; replace hb := below_step hb hn; clear hn))
  go_wp2_with ((with_reducible refine wpl_guard ?_); first | (refine wpl_load_arr rfl 27 _ rfl _ rfl _ _ h10 _ _ uPoly sPoly ?_) | (refine wpl_load_arr rfl 27 _ rfl _ rfl _ _ h9 _ _ uPoly sPoly ?_))
  refine (c_b2.out _).mono ?_
  rintro e u3 ⟨rfl, hn⟩
  replace hD := hD.keep hn
  replace hF := hF.keep hn
  replace hG := hG.keep hn
  replace hZ := hZ.keep hn
  replace h9 := h9.keep hn
  replace h10 := h10.keep hn
  replace h11 := h11.keep hn
  replace h12 := h12.keep hn
  replace hb := below_step hb hn
  clear hn
  go_upto_region 4 with ((with_reducible refine wpl_guard ?_); first | (refine wpl_new3 27 zPoly sPoly _ _ rfl rfl rfl rfl rfl _ _ rfl rfl rfl rfl rfl _ _ rfl rfl rfl rfl rfl rfl _ rfl rfl _ rfl rfl _ rfl ?_; intro z4 hn h13 h14 h15; replace hD := hD.keep hn; replace hF := hF.keep hn; replace hG := hG.keep hn; replace hZ := hZ.keep hn; replace h9 := h9.keep hn; replace h10 := h10.keep hn; replace h11 := h11.keep hn; replace h12 := h12.keep hn; replace hb := below_step hb hn; clear hn))
  go_wp2_with ((with_reducible refine wpl_guard ?_); first | (refine wpl_load_arr rfl 27 _ rfl _ rfl _ _ h14 _ _ uPoly sPoly ?_) | (refine wpl_load_arr rfl 27 _ rfl _ rfl _ _ h11 _ _ uPoly sPoly ?_))
  refine (c_r.out _).mono ?_
  rintro e u4 ⟨rfl, hn⟩
  replace hD := hD.keep hn
  replace hF := hF.keep hn
  replace hG := hG.keep hn
  replace hZ := hZ.keep hn
  replace h9 := h9.keep hn
  replace h10 := h10.keep hn
  replace h11 := h11.keep hn
  replace h12 := h12.keep hn
  replace h13 := h13.keep hn
  replace h14 := h14.keep hn
  replace h15 := h15.keep hn
  replace hb := below_step hb hn
  clear hn
  go_upto_region 5 with ((with_reducible refine wpl_guard ?_); first | (refine wpl_new1 27 zPoly sPoly _ _ rfl rfl rfl rfl rfl rfl _ rfl ?_; intro z5 hn h16; replace hD := hD.keep hn; replace hF := hF.keep hn; replace hG := hG.keep hn; replace hZ := hZ.keep hn; replace h9 := h9.keep hn; replace h10 := h10.keep hn; replace h11 := h11.keep hn; replace h12 := h12.keep hn; replace h13 := h13.keep hn; replace h14 := h14.keep hn; replace h15 := h15.keep hn; replace hb := below_step hb hn; clear hn))
  go_wp2_with ((with_reducible refine wpl_guard ?_); first | (refine wpl_load_arr rfl 27 _ rfl _ rfl _ _ h14 _ _ uPoly sPoly ?_) | (refine wpl_load_arr rfl 27 _ rfl _ rfl _ _ h12 _ _ uPoly sPoly ?_))
  refine (c_s.out _).mono ?_
  rintro e u5 ⟨rfl, hn⟩
  replace hD := hD.keep hn
  replace hF := hF.keep hn
  replace hG := hG.keep hn
  replace hZ := hZ.keep hn
  replace h9 := h9.keep hn
  replace h10 := h10.keep hn
  replace h11 := h11.keep hn
  replace h12 := h12.keep hn
  replace h13 := h13.keep hn
  replace h14 := h14.keep hn
  replace h15 := h15.keep hn
  replace h16 := h16.keep hn
  replace hb := below_step hb hn
  clear hn
  go_upto_region 6 with ((with_reducible refine wpl_guard ?_); first | (refine wpl_new1 27 zPoly sPoly _ _ rfl rfl rfl rfl rfl rfl _ rfl ?_; intro z6 hn h18; replace hD := hD.keep hn; replace hF := hF.keep hn; replace hG := hG.keep hn; replace hZ := hZ.keep hn; replace h9 := h9.keep hn; replace h10 := h10.keep hn; replace h11 := h11.keep hn; replace h12 := h12.keep hn; replace h13 := h13.keep hn; replace h14 := h14.keep hn; replace h15 := h15.keep hn; replace h16 := h16.keep hn; replace hb := below_step hb hn; clear hn))
  go_wp2_with ((with_reducible refine wpl_guard ?_); first | (refine wpl_load_arr rfl 27 _ rfl _ rfl _ _ h13 _ _ uPoly sPoly ?_))
  refine (c_sq.out _).mono ?_
  rintro e u6 ⟨rfl, hn⟩
  replace hD := hD.keep hn
  replace hF := hF.keep hn
  replace hG := hG.keep hn
  replace hZ := hZ.keep hn
  replace h9 := h9.keep hn
  replace h10 := h10.keep hn
  replace h11 := h11.keep hn
  replace h12 := h12.keep hn
  replace h13 := h13.keep hn
  replace h14 := h14.keep hn
  replace h15 := h15.keep hn
  replace h16 := h16.keep hn
  replace h18 := h18.keep hn
  replace hb := below_step hb hn
  clear hn
  go_upto_region 7 with ((with_reducible refine wpl_guard ?_); first | (refine wpl_new1 27 zPoly sPoly _ _ rfl rfl rfl rfl rfl rfl _ rfl ?_; intro z7 hn h20; replace hD := hD.keep hn; replace hF := hF.keep hn; replace hG := hG.keep hn; replace hZ := hZ.keep hn; replace h9 := h9.keep hn; replace h10 := h10.keep hn; replace h11 := h11.keep hn; replace h12 := h12.keep hn; replace h13 := h13.keep hn; replace h14 := h14.keep hn; replace h15 := h15.keep hn; replace h16 := h16.keep hn; replace h18 := h18.keep hn; replace hb := below_step hb hn; clear hn))
  go_wp2_with ((with_reducible refine wpl_guard ?_); first | (refine wpl_load_A rfl 27 _ rfl _ rfl 5 _ _ _ hF uPoly sPoly ?_) | (refine wpl_load_A rfl 27 _ rfl _ rfl 5 _ _ _ hG uPoly sPoly ?_))
  refine (c_pr.out _).mono ?_
  rintro e u7 ⟨rfl, hn⟩
  replace hD := hD.keep hn
  replace hF := hF.keep hn
  replace hG := hG.keep hn
  replace hZ := hZ.keep hn
  replace h9 := h9.keep hn
  replace h10 := h10.keep hn
  replace h11 := h11.keep hn
  replace h12 := h12.keep hn
  replace h13 := h13.keep hn
  replace h14 := h14.keep hn
  replace h15 := h15.keep hn
  replace h16 := h16.keep hn
  replace h18 := h18.keep hn
  replace h20 := h20.keep hn
  replace hb := below_step hb hn
  clear hn
  go_upto_region 8 with ((with_reducible refine wpl_guard ?_); first | (refine wpl_new1 27 zPoly sPoly _ _ rfl rfl rfl rfl rfl rfl _ rfl ?_; intro z8 hn h22; replace hD := hD.keep hn; replace hF := hF.keep hn; replace hG := hG.keep hn; replace hZ := hZ.keep hn; replace h9 := h9.keep hn; replace h10 := h10.keep hn; replace h11 := h11.keep hn; replace h12 := h12.keep hn; replace h13 := h13.keep hn; replace h14 := h14.keep hn; replace h15 := h15.keep hn; replace h16 := h16.keep hn; replace h18 := h18.keep hn; replace h20 := h20.keep hn; replace hb := below_step hb hn; clear hn))
  go_wp2_with ((with_reducible refine wpl_guard ?_); first | (refine wpl_load_arr rfl 27 _ rfl _ rfl _ _ h22 _ _ uPoly sPoly ?_) | (refine wpl_load_arr rfl 27 _ rfl _ rfl _ _ h20 _ _ uPoly sPoly ?_))
  refine (c_A.out _).mono ?_
  rintro e u8 ⟨rfl, hn⟩
  replace hD := hD.keep hn
  replace hF := hF.keep hn
  replace hG := hG.keep hn
  replace hZ := hZ.keep hn
  replace h9 := h9.keep hn
  replace h10 := h10.keep hn
  replace h11 := h11.keep hn
  replace h12 := h12.keep hn
  replace h13 := h13.keep hn
  replace h14 := h14.keep hn
  replace h15 := h15.keep hn
  replace h16 := h16.keep hn
  replace h18 := h18.keep hn
  replace h20 := h20.keep hn
  replace h22 := h22.keep hn
  replace hb := below_step hb hn
  clear hn
  have hz24 := hZ.lt
  go_upto_region 9 with ((with_reducible refine wpl_guard ?_); first | (refine wpl_new2 27 zPoly sPoly _ _ rfl rfl rfl rfl rfl _ _ rfl rfl rfl rfl rfl rfl _ rfl rfl _ rfl ?_; intro z9 hn h24 h25; replace hD := hD.keep hn; replace hF := hF.keep hn; replace hG := hG.keep hn; replace hZ := hZ.keep hn; replace h9 := h9.keep hn; replace h10 := h10.keep hn; replace h11 := h11.keep hn; replace h12 := h12.keep hn; replace h13 := h13.keep hn; replace h14 := h14.keep hn; replace h15 := h15.keep hn; replace h16 := h16.keep hn; replace h18 := h18.keep hn; replace h20 := h20.keep hn; replace h22 := h22.keep hn; replace hb := below_step hb hn; clear hn))
  go_wp2_with ((with_reducible refine wpl_guard ?_); first | (refine wpl_load_B rfl 27 _ rfl _ rfl 5 _ _ _ hF uPoly sPoly ?_) | (refine wpl_load_B rfl 27 _ rfl _ rfl 5 _ _ _ hG uPoly sPoly ?_))
  refine (c_bo.out _).mono ?_
  rintro e u9 ⟨rfl, hn⟩
  replace hD := hD.keep hn
  replace hF := hF.keep hn
  replace hG := hG.keep hn
  replace hZ := hZ.keep hn
  replace h9 := h9.keep hn
  replace h10 := h10.keep hn
  replace h11 := h11.keep hn
  replace h12 := h12.keep hn
  replace h13 := h13.keep hn
  replace h14 := h14.keep hn
  replace h15 := h15.keep hn
  replace h16 := h16.keep hn
  replace h18 := h18.keep hn
  replace h20 := h20.keep hn
  replace h22 := h22.keep hn
  replace h24 := h24.keep hn
  replace h25 := h25.keep hn
  replace hb := below_step hb hn
  clear hn
  go_upto_region 10 with ((with_reducible refine wpl_guard ?_); first | (refine wpl_new1 27 zPoly sPoly _ _ rfl rfl rfl rfl rfl rfl _ rfl ?_; intro z10 hn h26; replace hD := hD.keep hn; replace hF := hF.keep hn; replace hG := hG.keep hn; replace hZ := hZ.keep hn; replace h9 := h9.keep hn; replace h10 := h10.keep hn; replace h11 := h11.keep hn; replace h12 := h12.keep hn; replace h13 := h13.keep hn; replace h14 := h14.keep hn; replace h15 := h15.keep hn; replace h16 := h16.keep hn; replace h18 := h18.keep hn; replace h20 := h20.keep hn; replace h22 := h22.keep hn; replace h24 := h24.keep hn; replace h25 := h25.keep hn; replace hb := below_step hb hn; clear hn))
  refine law_region2 (by kernel_rfl) (by kernel_rfl) (by kernel_rfl) (by kernel_rfl)
      (fun i => ([some (.int .i64 p), some (.int .i64 p), some (.agg (u8s 64 (cf r))), some (.pointer (some ⟨w.heap.size + 1, 0 + 0, none⟩)), some (.agg (u8s 64 (cf a1))), some (.pointer (some ⟨w.heap.size + 1 + 1, 0 + 64, none⟩)), some (.agg (u8s 64 (cf b2))), some (.agg (u8s 64 (cf t1))), some (.int .i64 p), some (.agg (u8s 64 (cf s))), some (.pointer (some ⟨w.heap.size + 1 + 1, 0 + 0, none⟩)), some (.agg (u8s 64 (cf a2))), some (.pointer (some ⟨w.heap.size + 1, 0 + 64, none⟩)), some (.agg (u8s 64 (cf b1))), some (.agg (u8s 64 (cf t2))), some (.agg (u8s 64 (cf top))), none, none] : List (Option Value)).getD i none) 1 (fun zk => [16].getD zk 0) (fun zk => [17].getD zk 0) (fun zk => [15].getD zk 0) (fun zk => [28].getD zk 0) (fun zk => [118].getD zk 0) (fun zk => [64].getD zk 0) (fun zk => [(cf top)].getD zk (fun _ => 0)) (fun zk => [27].getD zk 0) ?_ ?_ ?_ ?_ ?_ ?_
  · intro i hi
    rcases i with _|_|_|_|_|_|_|_|_|_|_|_|_|_|_|_|_|_|i
    · exact .inl ⟨_, rfl⟩
    · exact .inl ⟨_, rfl⟩
    · exact .inl ⟨_, rfl⟩
    · exact .inl ⟨_, rfl⟩
    · exact .inl ⟨_, rfl⟩
    · exact .inl ⟨_, rfl⟩
    · exact .inl ⟨_, rfl⟩
    · exact .inl ⟨_, rfl⟩
    · exact .inl ⟨_, rfl⟩
    · exact .inl ⟨_, rfl⟩
    · exact .inl ⟨_, rfl⟩
    · exact .inl ⟨_, rfl⟩
    · exact .inl ⟨_, rfl⟩
    · exact .inl ⟨_, rfl⟩
    · exact .inl ⟨_, rfl⟩
    · exact .inl ⟨_, rfl⟩
    · exact .inr (.inl ⟨0, by decide, rfl⟩)
    · exact .inr (.inr ⟨0, by decide, rfl⟩)
    · simp only [List.length_cons, List.length_nil] at hi; omega
  · intro k hk
    rcases k with _|k
    · exact ⟨rfl, rfl, rfl, zPoly⟩
    · omega
  · intro k hk k' hk'
    rcases k with _|k
    all_goals rcases k' with _|k'
    all_goals first | omega | exact ⟨by decide, by decide, by decide⟩
  · intro k hk
    rcases k with _|k
    · kernel_rfl
    · omega
  · intro i o c ho hc a w2 hBw hrd hpar
    rcases i with _|_|_|_|_|_|_|_|_|_|_|_|_|_|_|_|_|_|i
    · obtain rfl := Option.some.inj ho
      obtain rfl := Option.some.inj hc
      exact wp_move _ (.int .i64 p) rfl (hpar 0 _ (by kernel_rfl) (by kernel_rfl))
    · obtain rfl := Option.some.inj ho
      obtain rfl := Option.some.inj hc
      exact wp_move _ (.int .i64 p) rfl (hpar 0 _ (by kernel_rfl) (by kernel_rfl))
    · obtain rfl := Option.some.inj ho
      obtain rfl := Option.some.inj hc
      exact wp_loadB 27 _ rfl _ (hpar 16 (.pointer (some ⟨u4.heap.size, 0, none⟩)) (by kernel_rfl) (by kernel_rfl)) _ _ (h16.keep hBw) _ _ uPoly sPoly
    · obtain rfl := Option.some.inj ho
      obtain rfl := Option.some.inj hc
      exact wp_fieldB 30 _ 0 rfl 0 64 fForm0 (w.heap.size + 1) 0 (hpar 6 _ (by kernel_rfl) (by kernel_rfl))
    · obtain rfl := Option.some.inj ho
      obtain rfl := Option.some.inj hc
      exact wp_load_A 27 _ rfl _ (hrd 3 _ _ 106 rfl rfl rfl (by kernel_rfl) (by kernel_rfl)) _ _ _ (hF.keep hBw) uPoly sPoly
    · obtain rfl := Option.some.inj ho
      obtain rfl := Option.some.inj hc
      exact wp_fieldB 30 _ 1 rfl 64 64 fForm1 (w.heap.size + 1 + 1) 0 (hpar 7 _ (by kernel_rfl) (by kernel_rfl))
    · obtain rfl := Option.some.inj ho
      obtain rfl := Option.some.inj hc
      exact wp_load_B 27 _ rfl _ (hrd 5 _ _ 108 rfl rfl rfl (by kernel_rfl) (by kernel_rfl)) _ _ _ (hG.keep hBw) uPoly sPoly
    · obtain rfl := Option.some.inj ho
      obtain rfl := Option.some.inj hc
      exact wp_callB 59 [.tmp 104, .tmp 105, .tmp 107, .tmp 109] _ rfl [.int .i64 p, .agg (u8s 64 (cf r)), .agg (u8s 64 (cf a1)), .agg (u8s 64 (cf b2))] (by simp only [List.map_cons, List.map_nil, (hrd 1 _ _ 104 rfl rfl rfl (by kernel_rfl) (by kernel_rfl)), (hrd 2 _ _ 105 rfl rfl rfl (by kernel_rfl) (by kernel_rfl)), (hrd 4 _ _ 107 rfl rfl rfl (by kernel_rfl) (by kernel_rfl)), (hrd 6 _ _ 109 rfl rfl rfl (by kernel_rfl) (by kernel_rfl))]) Try.call59 _ (c_t1.out w2)
    · obtain rfl := Option.some.inj ho
      obtain rfl := Option.some.inj hc
      exact wp_move _ (.int .i64 p) rfl (hpar 0 _ (by kernel_rfl) (by kernel_rfl))
    · obtain rfl := Option.some.inj ho
      obtain rfl := Option.some.inj hc
      exact wp_loadB 27 _ rfl _ (hpar 18 (.pointer (some ⟨u5.heap.size, 0, none⟩)) (by kernel_rfl) (by kernel_rfl)) _ _ (h18.keep hBw) _ _ uPoly sPoly
    · obtain rfl := Option.some.inj ho
      obtain rfl := Option.some.inj hc
      exact wp_fieldB 30 _ 0 rfl 0 64 fForm0 (w.heap.size + 1 + 1) 0 (hpar 7 _ (by kernel_rfl) (by kernel_rfl))
    · obtain rfl := Option.some.inj ho
      obtain rfl := Option.some.inj hc
      exact wp_load_A 27 _ rfl _ (hrd 10 _ _ 113 rfl rfl rfl (by kernel_rfl) (by kernel_rfl)) _ _ _ (hG.keep hBw) uPoly sPoly
    · obtain rfl := Option.some.inj ho
      obtain rfl := Option.some.inj hc
      exact wp_fieldB 30 _ 1 rfl 64 64 fForm1 (w.heap.size + 1) 0 (hpar 6 _ (by kernel_rfl) (by kernel_rfl))
    · obtain rfl := Option.some.inj ho
      obtain rfl := Option.some.inj hc
      exact wp_load_B 27 _ rfl _ (hrd 12 _ _ 115 rfl rfl rfl (by kernel_rfl) (by kernel_rfl)) _ _ _ (hF.keep hBw) uPoly sPoly
    · obtain rfl := Option.some.inj ho
      obtain rfl := Option.some.inj hc
      exact wp_callB 59 [.tmp 111, .tmp 112, .tmp 114, .tmp 116] _ rfl [.int .i64 p, .agg (u8s 64 (cf s)), .agg (u8s 64 (cf a2)), .agg (u8s 64 (cf b1))] (by simp only [List.map_cons, List.map_nil, (hrd 8 _ _ 111 rfl rfl rfl (by kernel_rfl) (by kernel_rfl)), (hrd 9 _ _ 112 rfl rfl rfl (by kernel_rfl) (by kernel_rfl)), (hrd 11 _ _ 114 rfl rfl rfl (by kernel_rfl) (by kernel_rfl)), (hrd 13 _ _ 116 rfl rfl rfl (by kernel_rfl) (by kernel_rfl))]) Try.call59 _ (c_t2.out w2)
    · obtain rfl := Option.some.inj ho
      obtain rfl := Option.some.inj hc
      exact wp_callB 55 [.tmp 103, .tmp 110, .tmp 117, .const (.int .i64 1)] _ rfl [.int .i64 p, .agg (u8s 64 (cf t1)), .agg (u8s 64 (cf t2)), .int .i64 1] (by simp only [List.map_cons, List.map_nil, (hrd 0 _ _ 103 rfl rfl rfl (by kernel_rfl) (by kernel_rfl)), (hrd 7 _ _ 110 rfl rfl rfl (by kernel_rfl) (by kernel_rfl)), (hrd 14 _ _ 117 rfl rfl rfl (by kernel_rfl) (by kernel_rfl)), eval_const]) Try.call55 _ (c_top.out w2)
    · cases hc
    · cases hc
    · cases hc
  intro vals xJ hBw hc hr
  have e0 : vals 0 = .int .i64 p := hc 0 _ (by simp) rfl
  have e1 : vals 1 = .int .i64 p := hc 1 _ (by simp) rfl
  have e2 : vals 2 = .agg (u8s 64 (cf r)) := hc 2 _ (by simp) rfl
  have e3 : vals 3 = .pointer (some ⟨w.heap.size + 1, 0 + 0, none⟩) := hc 3 _ (by simp) rfl
  have e4 : vals 4 = .agg (u8s 64 (cf a1)) := hc 4 _ (by simp) rfl
  have e5 : vals 5 = .pointer (some ⟨w.heap.size + 1 + 1, 0 + 64, none⟩) := hc 5 _ (by simp) rfl
  have e6 : vals 6 = .agg (u8s 64 (cf b2)) := hc 6 _ (by simp) rfl
  have e7 : vals 7 = .agg (u8s 64 (cf t1)) := hc 7 _ (by simp) rfl
  have e8 : vals 8 = .int .i64 p := hc 8 _ (by simp) rfl
  have e9 : vals 9 = .agg (u8s 64 (cf s)) := hc 9 _ (by simp) rfl
  have e10 : vals 10 = .pointer (some ⟨w.heap.size + 1 + 1, 0 + 0, none⟩) := hc 10 _ (by simp) rfl
  have e11 : vals 11 = .agg (u8s 64 (cf a2)) := hc 11 _ (by simp) rfl
  have e12 : vals 12 = .pointer (some ⟨w.heap.size + 1, 0 + 64, none⟩) := hc 12 _ (by simp) rfl
  have e13 : vals 13 = .agg (u8s 64 (cf b1)) := hc 13 _ (by simp) rfl
  have e14 : vals 14 = .agg (u8s 64 (cf t2)) := hc 14 _ (by simp) rfl
  have e15 : vals 15 = .agg (u8s 64 (cf top)) := hc 15 _ (by simp) rfl
  obtain ⟨gJ0, p0, hgJ0, hJ0⟩ : ∃ g, vals 16 = .pointer (some ⟨g, 0, none⟩) ∧ _ ≤ g ∧ Blk xJ g (u8s 64 (cf top)) 27 := hr 0 (by decide)
  simp only [List.length_cons, List.length_nil, Nat.zero_add, Nat.reduceAdd, List.replicate, putAll, if_true, Act.put, List.setIfInBounds_toArray, List.set_cons_zero, List.set_cons_succ, e0, e1, e2, e3, e4, e5, e6, e7, e8, e9, e10, e11, e12, e13, e14, e15, p0]
  replace hD := hD.keep hBw
  replace hF := hF.keep hBw
  replace hG := hG.keep hBw
  replace hZ := hZ.keep hBw
  replace h9 := h9.keep hBw
  replace h10 := h10.keep hBw
  replace h11 := h11.keep hBw
  replace h12 := h12.keep hBw
  replace h13 := h13.keep hBw
  replace h14 := h14.keep hBw
  replace h15 := h15.keep hBw
  replace h16 := h16.keep hBw
  replace h18 := h18.keep hBw
  replace h20 := h20.keep hBw
  replace h22 := h22.keep hBw
  replace h24 := h24.keep hBw
  replace h25 := h25.keep hBw
  replace h26 := h26.keep hBw
  replace hb := below_step hb hBw
  clear hc hr e0 e1 e2 e3 e4 e5 e6 e7 e8 e9 e10 e11 e12 e13 e14 e15 p0
  clear hBw
  go_upto_region 11 with (fail)
  refine law_region2 (by kernel_rfl) (by kernel_rfl) (by kernel_rfl) (by kernel_rfl)
      (fun i => ([some (.int .i64 p), some (.agg (u8s 64 (cf t))), some (.int .i64 p), some (.agg (u8s 64 (cf bo))), some (.agg (u8s 64 (cf ds))), some (.agg (u8s 64 (cf bd))), some (.tuple #[.agg (u8s 64 (cf la)), .bool true]), some (.tuple #[.agg (u8s 64 (cf la)), .bool true]), some (.agg (u8s 64 (cf la))), some (.bool true), none, none, some (.bool true)] : List (Option Value)).getD i none) 1 (fun zk => [10].getD zk 0) (fun zk => [11].getD zk 0) (fun zk => [8].getD zk 0) (fun zk => [29].getD zk 0) (fun zk => [127].getD zk 0) (fun zk => [64].getD zk 0) (fun zk => [(cf la)].getD zk (fun _ => 0)) (fun zk => [27].getD zk 0) ?_ ?_ ?_ ?_ ?_ ?_
  · intro i hi
    rcases i with _|_|_|_|_|_|_|_|_|_|_|_|_|i
    · exact .inl ⟨_, rfl⟩
    · exact .inl ⟨_, rfl⟩
    · exact .inl ⟨_, rfl⟩
    · exact .inl ⟨_, rfl⟩
    · exact .inl ⟨_, rfl⟩
    · exact .inl ⟨_, rfl⟩
    · exact .inl ⟨_, rfl⟩
    · exact .inl ⟨_, rfl⟩
    · exact .inl ⟨_, rfl⟩
    · exact .inl ⟨_, rfl⟩
    · exact .inr (.inl ⟨0, by decide, rfl⟩)
    · exact .inr (.inr ⟨0, by decide, rfl⟩)
    · exact .inl ⟨_, rfl⟩
    · simp only [List.length_cons, List.length_nil] at hi; omega
  · intro k hk
    rcases k with _|k
    · exact ⟨rfl, rfl, rfl, zPoly⟩
    · omega
  · intro k hk k' hk'
    rcases k with _|k
    all_goals rcases k' with _|k'
    all_goals first | omega | exact ⟨by decide, by decide, by decide⟩
  · intro k hk
    rcases k with _|k
    · kernel_rfl
    · omega
  · intro i o c ho hc a w2 hBw hrd hpar
    rcases i with _|_|_|_|_|_|_|_|_|_|_|_|_|i
    · obtain rfl := Option.some.inj ho
      obtain rfl := Option.some.inj hc
      exact wp_move _ (.int .i64 p) rfl (hpar 0 _ (by kernel_rfl) (by kernel_rfl))
    · obtain rfl := Option.some.inj ho
      obtain rfl := Option.some.inj hc
      exact wp_loadB 27 _ rfl _ (hpar 15 (.pointer (some ⟨u3.heap.size + 1 + 1, 0, none⟩)) (by kernel_rfl) (by kernel_rfl)) _ _ (h15.keep hBw) _ _ uPoly sPoly
    · obtain rfl := Option.some.inj ho
      obtain rfl := Option.some.inj hc
      exact wp_move _ (.int .i64 p) rfl (hpar 0 _ (by kernel_rfl) (by kernel_rfl))
    · obtain rfl := Option.some.inj ho
      obtain rfl := Option.some.inj hc
      exact wp_loadB 27 _ rfl _ (hpar 26 (.pointer (some ⟨u9.heap.size, 0, none⟩)) (by kernel_rfl) (by kernel_rfl)) _ _ (h26.keep hBw) _ _ uPoly sPoly
    · obtain rfl := Option.some.inj ho
      obtain rfl := Option.some.inj hc
      exact wp_loadB 27 _ rfl _ (hpar 5 (.pointer (some ⟨w.heap.size, 0, none⟩)) (by kernel_rfl) (by kernel_rfl)) _ _ (hD.keep hBw) _ _ uPoly sPoly
    · obtain rfl := Option.some.inj ho
      obtain rfl := Option.some.inj hc
      exact wp_callB 55 [.tmp 122, .tmp 123, .tmp 124, .const (.int .i64 1)] _ rfl [.int .i64 p, .agg (u8s 64 (cf bo)), .agg (u8s 64 (cf ds)), .int .i64 1] (by simp only [List.map_cons, List.map_nil, (hrd 2 _ _ 122 rfl rfl rfl (by kernel_rfl) (by kernel_rfl)), (hrd 3 _ _ 123 rfl rfl rfl (by kernel_rfl) (by kernel_rfl)), (hrd 4 _ _ 124 rfl rfl rfl (by kernel_rfl) (by kernel_rfl)), eval_const]) Try.call55 _ (c_bd.out w2)
    · obtain rfl := Option.some.inj ho
      obtain rfl := Option.some.inj hc
      exact wp_callB 57 [.tmp 120, .tmp 121, .tmp 125] _ rfl [.int .i64 p, .agg (u8s 64 (cf t)), .agg (u8s 64 (cf bd))] (by simp only [List.map_cons, List.map_nil, (hrd 0 _ _ 120 rfl rfl rfl (by kernel_rfl) (by kernel_rfl)), (hrd 1 _ _ 121 rfl rfl rfl (by kernel_rfl) (by kernel_rfl)), (hrd 5 _ _ 125 rfl rfl rfl (by kernel_rfl) (by kernel_rfl))]) Try.call57 _ (c_la.out w2)
    · obtain rfl := Option.some.inj ho
      obtain rfl := Option.some.inj hc
      exact wp_move _ (.tuple #[.agg (u8s 64 (cf la)), .bool true]) rfl (hrd 6 _ _ 126 rfl rfl rfl (by kernel_rfl) (by kernel_rfl))
    · obtain rfl := Option.some.inj ho
      obtain rfl := Option.some.inj hc
      exact wp_extract _ 0 #[.agg (u8s 64 (cf la)), .bool true] _ rfl (hrd 7 _ _ 119 rfl rfl rfl (by kernel_rfl) (by kernel_rfl)) rfl
    · obtain rfl := Option.some.inj ho
      obtain rfl := Option.some.inj hc
      exact wp_extract _ 1 #[.agg (u8s 64 (cf la)), .bool true] _ rfl (hrd 7 _ _ 119 rfl rfl rfl (by kernel_rfl) (by kernel_rfl)) rfl
    · cases hc
    · cases hc
    · obtain rfl := Option.some.inj ho
      obtain rfl := Option.some.inj hc
      exact wp_assign _ (.bool true) rfl (hrd 9 _ _ 128 rfl rfl rfl (by kernel_rfl) (by kernel_rfl))
    · cases hc
  intro vals xK hBw hc hr
  have e0 : vals 0 = .int .i64 p := hc 0 _ (by simp) rfl
  have e1 : vals 1 = .agg (u8s 64 (cf t)) := hc 1 _ (by simp) rfl
  have e2 : vals 2 = .int .i64 p := hc 2 _ (by simp) rfl
  have e3 : vals 3 = .agg (u8s 64 (cf bo)) := hc 3 _ (by simp) rfl
  have e4 : vals 4 = .agg (u8s 64 (cf ds)) := hc 4 _ (by simp) rfl
  have e5 : vals 5 = .agg (u8s 64 (cf bd)) := hc 5 _ (by simp) rfl
  have e6 : vals 6 = .tuple #[.agg (u8s 64 (cf la)), .bool true] := hc 6 _ (by simp) rfl
  have e7 : vals 7 = .tuple #[.agg (u8s 64 (cf la)), .bool true] := hc 7 _ (by simp) rfl
  have e8 : vals 8 = .agg (u8s 64 (cf la)) := hc 8 _ (by simp) rfl
  have e9 : vals 9 = .bool true := hc 9 _ (by simp) rfl
  have e12 : vals 12 = .bool true := hc 12 _ (by simp) rfl
  obtain ⟨gK0, p0, hgK0, hK0⟩ : ∃ g, vals 10 = .pointer (some ⟨g, 0, none⟩) ∧ _ ≤ g ∧ Blk xK g (u8s 64 (cf la)) 27 := hr 0 (by decide)
  simp only [List.length_cons, List.length_nil, Nat.zero_add, Nat.reduceAdd, List.replicate, putAll, if_true, Act.put, List.setIfInBounds_toArray, List.set_cons_zero, List.set_cons_succ, e0, e1, e2, e3, e4, e5, e6, e7, e8, e9, e12, p0]
  replace hD := hD.keep hBw
  replace hF := hF.keep hBw
  replace hG := hG.keep hBw
  replace hZ := hZ.keep hBw
  replace h9 := h9.keep hBw
  replace h10 := h10.keep hBw
  replace h11 := h11.keep hBw
  replace h12 := h12.keep hBw
  replace h13 := h13.keep hBw
  replace h14 := h14.keep hBw
  replace h15 := h15.keep hBw
  replace h16 := h16.keep hBw
  replace h18 := h18.keep hBw
  replace h20 := h20.keep hBw
  replace h22 := h22.keep hBw
  replace h24 := h24.keep hBw
  replace h25 := h25.keep hBw
  replace h26 := h26.keep hBw
  replace hJ0 := hJ0.keep hBw
  replace hb := below_step hb hBw
  clear hc hr e0 e1 e2 e3 e4 e5 e6 e7 e8 e9 e12 p0
  clear hBw
  have hzK := hZ.lt
  go_upto_region 12 with (fail)
  refine law_region2 (by kernel_rfl) (by kernel_rfl) (by kernel_rfl) (by kernel_rfl)
      (fun i => ([some (.int .i64 p), some (.int .i64 p), some (.agg (u8s 64 (cf top))), some (.agg (u8s 64 (cf la))), some (.agg (u8s 64 (cf N))), some (.agg (u8s 64 (cf d))), some (.tuple #[.agg (u8s 64 (cf BQ)), .agg (u8s 64 (cf BR))]), some (.tuple #[.agg (u8s 64 (cf BQ)), .agg (u8s 64 (cf BR))]), some (.agg (u8s 64 (cf BQ))), some (.agg (u8s 64 (cf BR))), none, none, none, none] : List (Option Value)).getD i none) 2 (fun zk => [10, 11].getD zk 0) (fun zk => [12, 13].getD zk 0) (fun zk => [8, 9].getD zk 0) (fun zk => [31, 32].getD zk 0) (fun zk => [137, 138].getD zk 0) (fun zk => [64, 64].getD zk 0) (fun zk => [(cf BQ), (cf BR)].getD zk (fun _ => 0)) (fun zk => [27, 27].getD zk 0) ?_ ?_ ?_ ?_ ?_ ?_
  · intro i hi
    rcases i with _|_|_|_|_|_|_|_|_|_|_|_|_|_|i
    · exact .inl ⟨_, rfl⟩
    · exact .inl ⟨_, rfl⟩
    · exact .inl ⟨_, rfl⟩
    · exact .inl ⟨_, rfl⟩
    · exact .inl ⟨_, rfl⟩
    · exact .inl ⟨_, rfl⟩
    · exact .inl ⟨_, rfl⟩
    · exact .inl ⟨_, rfl⟩
    · exact .inl ⟨_, rfl⟩
    · exact .inl ⟨_, rfl⟩
    · exact .inr (.inl ⟨0, by decide, rfl⟩)
    · exact .inr (.inl ⟨1, by decide, rfl⟩)
    · exact .inr (.inr ⟨0, by decide, rfl⟩)
    · exact .inr (.inr ⟨1, by decide, rfl⟩)
    · simp only [List.length_cons, List.length_nil] at hi; omega
  · intro k hk
    rcases k with _|_|k
    · exact ⟨rfl, rfl, rfl, zPoly⟩
    · exact ⟨rfl, rfl, rfl, zPoly⟩
    · omega
  · intro k hk k' hk'
    rcases k with _|_|k
    all_goals rcases k' with _|_|k'
    all_goals first | omega | exact ⟨by decide, by decide, by decide⟩
  · intro k hk
    rcases k with _|_|k
    · kernel_rfl
    · kernel_rfl
    · omega
  · intro i o c ho hc a w2 hBw hrd hpar
    rcases i with _|_|_|_|_|_|_|_|_|_|_|_|_|_|i
    · obtain rfl := Option.some.inj ho
      obtain rfl := Option.some.inj hc
      exact wp_move _ (.int .i64 p) rfl (hpar 0 _ (by kernel_rfl) (by kernel_rfl))
    · obtain rfl := Option.some.inj ho
      obtain rfl := Option.some.inj hc
      exact wp_move _ (.int .i64 p) rfl (hpar 0 _ (by kernel_rfl) (by kernel_rfl))
    · obtain rfl := Option.some.inj ho
      obtain rfl := Option.some.inj hc
      exact wp_loadB 27 _ rfl _ (hpar 28 (.pointer (some ⟨gJ0, 0, none⟩)) (by kernel_rfl) (by kernel_rfl)) _ _ (hJ0.keep hBw) _ _ uPoly sPoly
    · obtain rfl := Option.some.inj ho
      obtain rfl := Option.some.inj hc
      exact wp_loadB 27 _ rfl _ (hpar 29 (.pointer (some ⟨gK0, 0, none⟩)) (by kernel_rfl) (by kernel_rfl)) _ _ (hK0.keep hBw) _ _ uPoly sPoly
    · obtain rfl := Option.some.inj ho
      obtain rfl := Option.some.inj hc
      exact wp_callB 55 [.tmp 131, .tmp 132, .tmp 133, .const (.int .i64 1)] _ rfl [.int .i64 p, .agg (u8s 64 (cf top)), .agg (u8s 64 (cf la)), .int .i64 1] (by simp only [List.map_cons, List.map_nil, (hrd 1 _ _ 131 rfl rfl rfl (by kernel_rfl) (by kernel_rfl)), (hrd 2 _ _ 132 rfl rfl rfl (by kernel_rfl) (by kernel_rfl)), (hrd 3 _ _ 133 rfl rfl rfl (by kernel_rfl) (by kernel_rfl)), eval_const]) Try.call55 _ (c_N.out w2)
    · obtain rfl := Option.some.inj ho
      obtain rfl := Option.some.inj hc
      exact wp_loadB 27 _ rfl _ (hpar 13 (.pointer (some ⟨u3.heap.size, 0, none⟩)) (by kernel_rfl) (by kernel_rfl)) _ _ (h13.keep hBw) _ _ uPoly sPoly
    · obtain rfl := Option.some.inj ho
      obtain rfl := Option.some.inj hc
      exact wp_callB 58 [.tmp 130, .tmp 134, .tmp 135] _ rfl [.int .i64 p, .agg (u8s 64 (cf N)), .agg (u8s 64 (cf d))] (by simp only [List.map_cons, List.map_nil, (hrd 0 _ _ 130 rfl rfl rfl (by kernel_rfl) (by kernel_rfl)), (hrd 4 _ _ 134 rfl rfl rfl (by kernel_rfl) (by kernel_rfl)), (hrd 5 _ _ 135 rfl rfl rfl (by kernel_rfl) (by kernel_rfl))]) Try.call58 _ (c_B.out w2)
    · obtain rfl := Option.some.inj ho
      obtain rfl := Option.some.inj hc
      exact wp_move _ (.tuple #[.agg (u8s 64 (cf BQ)), .agg (u8s 64 (cf BR))]) rfl (hrd 6 _ _ 136 rfl rfl rfl (by kernel_rfl) (by kernel_rfl))
    · obtain rfl := Option.some.inj ho
      obtain rfl := Option.some.inj hc
      exact wp_extract _ 0 #[.agg (u8s 64 (cf BQ)), .agg (u8s 64 (cf BR))] _ rfl (hrd 7 _ _ 129 rfl rfl rfl (by kernel_rfl) (by kernel_rfl)) rfl
    · obtain rfl := Option.some.inj ho
      obtain rfl := Option.some.inj hc
      exact wp_extract _ 1 #[.agg (u8s 64 (cf BQ)), .agg (u8s 64 (cf BR))] _ rfl (hrd 7 _ _ 129 rfl rfl rfl (by kernel_rfl) (by kernel_rfl)) rfl
    · cases hc
    · cases hc
    · cases hc
    · cases hc
    · cases hc
  intro vals xM hBw hc hr
  have e0 : vals 0 = .int .i64 p := hc 0 _ (by simp) rfl
  have e1 : vals 1 = .int .i64 p := hc 1 _ (by simp) rfl
  have e2 : vals 2 = .agg (u8s 64 (cf top)) := hc 2 _ (by simp) rfl
  have e3 : vals 3 = .agg (u8s 64 (cf la)) := hc 3 _ (by simp) rfl
  have e4 : vals 4 = .agg (u8s 64 (cf N)) := hc 4 _ (by simp) rfl
  have e5 : vals 5 = .agg (u8s 64 (cf d)) := hc 5 _ (by simp) rfl
  have e6 : vals 6 = .tuple #[.agg (u8s 64 (cf BQ)), .agg (u8s 64 (cf BR))] := hc 6 _ (by simp) rfl
  have e7 : vals 7 = .tuple #[.agg (u8s 64 (cf BQ)), .agg (u8s 64 (cf BR))] := hc 7 _ (by simp) rfl
  have e8 : vals 8 = .agg (u8s 64 (cf BQ)) := hc 8 _ (by simp) rfl
  have e9 : vals 9 = .agg (u8s 64 (cf BR)) := hc 9 _ (by simp) rfl
  obtain ⟨gM0, p0, hgM0, hM0⟩ : ∃ g, vals 10 = .pointer (some ⟨g, 0, none⟩) ∧ _ ≤ g ∧ Blk xM g (u8s 64 (cf BQ)) 27 := hr 0 (by decide)
  obtain ⟨gM1, p1, hgM1, hM1⟩ : ∃ g, vals 11 = .pointer (some ⟨g, 0, none⟩) ∧ _ ≤ g ∧ Blk xM g (u8s 64 (cf BR)) 27 := hr 1 (by decide)
  simp only [List.length_cons, List.length_nil, Nat.zero_add, Nat.reduceAdd, List.replicate, putAll, if_true, Act.put, List.setIfInBounds_toArray, List.set_cons_zero, List.set_cons_succ, e0, e1, e2, e3, e4, e5, e6, e7, e8, e9, p0, p1]
  replace hD := hD.keep hBw
  replace hF := hF.keep hBw
  replace hG := hG.keep hBw
  replace hZ := hZ.keep hBw
  replace h9 := h9.keep hBw
  replace h10 := h10.keep hBw
  replace h11 := h11.keep hBw
  replace h12 := h12.keep hBw
  replace h13 := h13.keep hBw
  replace h14 := h14.keep hBw
  replace h15 := h15.keep hBw
  replace h16 := h16.keep hBw
  replace h18 := h18.keep hBw
  replace h20 := h20.keep hBw
  replace h22 := h22.keep hBw
  replace h24 := h24.keep hBw
  replace h25 := h25.keep hBw
  replace h26 := h26.keep hBw
  replace hJ0 := hJ0.keep hBw
  replace hK0 := hK0.keep hBw
  replace hb := below_step hb hBw
  clear hc hr e0 e1 e2 e3 e4 e5 e6 e7 e8 e9 p0 p1
  clear hBw
  clear hgJ0 hgK0 hgM1
  go_upto_region 13 with (fail)
  refine gen_region (ws := w) (w := _) (B := w.heap.size) (by kernel_rfl) (by kernel_rfl) (by kernel_rfl) (by kernel_rfl)
      (fun i => ([fun zv _ => zv = .int .i64 p, fun zv _ => zv = .agg (u8s 64 (cf ds)), fun zv _ => zv = .agg (u8s 64 (cf A)), fun zv _ => zv = .int .i64 p, fun zv _ => zv = .agg (u8s 64 (cf BQ)), fun zv _ => zv = .agg (u8s 64 (cf A)), fun zv _ => zv = .agg (u8s 64 (cf RB)), fun zv _ => zv = .agg (u8s 128 (fmF (cf A) (cf RB))), fun zv _ => zv = .agg (u8s 128 (fmF (cf R1) (cf R2))), fun _ _ => True] : List (Value → World → Prop)).getD i (fun _ _ => True))
      (fun i => ([true, true, true, true, true, true, false, false, false, true] : List Bool).getD i true)
      1 (fun zk => [9].getD zk 0) (fun zk => [8].getD zk 0) (fun zk => [8].getD zk 0) (fun zk => [147].getD zk 0) (fun zk => [w.heap.size + 1 + 1 + 1].getD zk 0) (fun zk => [128].getD zk 0) (fun zk => [(fmF (cf R1) (cf R2))].getD zk (fun _ => 0)) (fun zk => [(fun _ => 0)].getD zk (fun _ => 0)) (fun zk => [30].getD zk 0) hb (Nat.le_refl _)
      (fun w' => Blk w' (w.heap.size) (u8s 64 (cf ds)) 27 ∧ Blk w' (u8.heap.size) (u8s 64 (cf A)) 27 ∧ Blk w' (gM0) (u8s 64 (cf BQ)) 27 ∧ True) ⟨hD.drew, h24.drew, hM0.drew, trivial⟩ (fun w1 w2 h hb => ⟨h.1.keep hb, h.2.1.keep hb, h.2.2.1.keep hb, trivial⟩) ?_ ?_ ?_ ?_ ?_ ?_ ?_
  · intro k hk w1 cs h
    rcases k with _|k
    · exact ⟨h.1.setRow_other (by simp only [List.getD_cons_zero, List.getD_cons_succ] <;> omega), h.2.1.setRow_other (by simp only [List.getD_cons_zero, List.getD_cons_succ] <;> omega), h.2.2.1.setRow_other (by simp only [List.getD_cons_zero, List.getD_cons_succ] <;> omega), trivial⟩
    · omega
  · intro i v w1 w2 h hb
    rcases i with _|_|_|_|_|_|_|_|_|_|i
    · exact h
    · exact h
    · exact h
    · exact h
    · exact h
    · exact h
    · exact h
    · exact h
    · exact h
    · exact h
    · exact h
  · intro k hk
    rcases k with _|k
    · kernel_rfl
    · omega
  · intro k hk
    rcases k with _|k
    · refine ⟨?_, (by kernel_rfl), hZ, fun v w' h => h, by decide, ?_⟩
      · simp only [List.getD_cons_zero, List.getD_cons_succ] <;> omega
      · intro k' hk' hne
        rcases k' with _|k'
        all_goals first | omega | exact absurd rfl hne | (refine ⟨?_, by decide⟩; simp only [List.getD_cons_zero, List.getD_cons_succ]; omega)
    · omega
  · kernel_rfl
  · intro i o ho hz a w2 hBs hSx hBl hrd hpar
    rcases i with _|_|_|_|_|_|_|_|_|_|i
    · obtain rfl := Option.some.inj ho
      have e0 : a.eval (.tmp 0) = .int .i64 p := hpar 0 _ (by kernel_rfl) (by kernel_rfl)
      exact wpv_of (wp_move _ _ rfl e0) (fun _ _ => rfl)
    · obtain rfl := Option.some.inj ho
      exact wpv_of (wp_loadB 27 _ rfl _ (hpar 5 (.pointer (some ⟨w.heap.size, 0, none⟩)) (by kernel_rfl) (by kernel_rfl)) _ _ hSx.1 _ _ uPoly sPoly) (fun _ _ => rfl)
    · obtain rfl := Option.some.inj ho
      exact wpv_of (wp_loadB 27 _ rfl _ (hpar 24 (.pointer (some ⟨u8.heap.size, 0, none⟩)) (by kernel_rfl) (by kernel_rfl)) _ _ hSx.2.1 _ _ uPoly sPoly) (fun _ _ => rfl)
    · obtain rfl := Option.some.inj ho
      have e0 : a.eval (.tmp 0) = .int .i64 p := hpar 0 _ (by kernel_rfl) (by kernel_rfl)
      exact wpv_of (wp_move _ _ rfl e0) (fun _ _ => rfl)
    · obtain rfl := Option.some.inj ho
      exact wpv_of (wp_loadB 27 _ rfl _ (hpar 31 (.pointer (some ⟨gM0, 0, none⟩)) (by kernel_rfl) (by kernel_rfl)) _ _ hSx.2.2.1 _ _ uPoly sPoly) (fun _ _ => rfl)
    · obtain rfl := Option.some.inj ho
      exact wpv_of (wp_loadB 27 _ rfl _ (hpar 24 (.pointer (some ⟨u8.heap.size, 0, none⟩)) (by kernel_rfl) (by kernel_rfl)) _ _ hSx.2.1 _ _ uPoly sPoly) (fun _ _ => rfl)
    · obtain rfl := Option.some.inj ho
      obtain ⟨_, e142⟩ : ∃ _w : World, a.eval (.tmp 142) = .int .i64 p := (hrd 3 _ 142 rfl rfl (by kernel_rfl) (by kernel_rfl) (by decide)).1
      obtain ⟨_, e143⟩ : ∃ _w : World, a.eval (.tmp 143) = .agg (u8s 64 (cf BQ)) := (hrd 4 _ 143 rfl rfl (by kernel_rfl) (by kernel_rfl) (by decide)).1
      obtain ⟨_, e144⟩ : ∃ _w : World, a.eval (.tmp 144) = .agg (u8s 64 (cf A)) := (hrd 5 _ 144 rfl rfl (by kernel_rfl) (by kernel_rfl) (by decide)).1
      exact wpv_call 53 [.tmp 142, .tmp 143, .tmp 144] _ rfl [.int .i64 p, .agg (u8s 64 (cf BQ)), .agg (u8s 64 (cf A))] (by simp only [List.map_cons, List.map_nil, e142, e143, e144]) Try.call53 ((c_R.out w2).mono fun _ _ ⟨h1, h2⟩ => ⟨_, h1, rfl, h2⟩)
    · obtain rfl := Option.some.inj ho
      obtain ⟨_, e141⟩ : ∃ _w : World, a.eval (.tmp 141) = .agg (u8s 64 (cf A)) := (hrd 2 _ 141 rfl rfl (by kernel_rfl) (by kernel_rfl) (by decide)).1
      obtain ⟨_, e145⟩ : ∃ _w : World, a.eval (.tmp 145) = .agg (u8s 64 (cf RB)) := (hrd 6 _ 145 rfl rfl (by kernel_rfl) (by kernel_rfl) (by decide)).1
      exact wpv_of (wp_build_pair 30 64 64 _ lForm (by rw [u8s_size]) _ _ rfl _ _ e141 e145 (by simp only [Value.cells, u8s_size]) (by simp only [Value.cells, u8s_size]) _ (fmF_app _ _)) (fun _ _ => rfl)
    · obtain rfl := Option.some.inj ho
      obtain ⟨_, e139⟩ : ∃ _w : World, a.eval (.tmp 139) = .int .i64 p := (hrd 0 _ 139 rfl rfl (by kernel_rfl) (by kernel_rfl) (by decide)).1
      obtain ⟨_, e140⟩ : ∃ _w : World, a.eval (.tmp 140) = .agg (u8s 64 (cf ds)) := (hrd 1 _ 140 rfl rfl (by kernel_rfl) (by kernel_rfl) (by decide)).1
      obtain ⟨_, e146⟩ : ∃ _w : World, a.eval (.tmp 146) = .agg (u8s 128 (fmF (cf A) (cf RB))) := (hrd 7 _ 146 rfl rfl (by kernel_rfl) (by kernel_rfl) (by decide)).1
      exact wpv_call 60 [.tmp 139, .tmp 140, .tmp 146] _ rfl [.int .i64 p, .agg (u8s 64 (cf ds)), .agg (u8s 128 (fmF (cf A) (cf RB)))] (by simp only [List.map_cons, List.map_nil, e139, e140, e146]) Try.call60 ((c_red.out w2).mono fun _ _ ⟨h1, h2⟩ => ⟨_, h1, rfl, h2⟩)
    · exact absurd rfl (hz 0 (by decide))
    · simp at ho
  intro vals xE hBx hSx hS0 hcs hrs
  obtain ⟨_, e0⟩ : ∃ _w : World, vals 0 = .int .i64 p := hcs 0 (by simp) (by decide)
  obtain ⟨_, e1⟩ : ∃ _w : World, vals 1 = .agg (u8s 64 (cf ds)) := hcs 1 (by simp) (by decide)
  obtain ⟨_, e2⟩ : ∃ _w : World, vals 2 = .agg (u8s 64 (cf A)) := hcs 2 (by simp) (by decide)
  obtain ⟨_, e3⟩ : ∃ _w : World, vals 3 = .int .i64 p := hcs 3 (by simp) (by decide)
  obtain ⟨_, e4⟩ : ∃ _w : World, vals 4 = .agg (u8s 64 (cf BQ)) := hcs 4 (by simp) (by decide)
  obtain ⟨_, e5⟩ : ∃ _w : World, vals 5 = .agg (u8s 64 (cf A)) := hcs 5 (by simp) (by decide)
  obtain ⟨_, e6⟩ : ∃ _w : World, vals 6 = .agg (u8s 64 (cf RB)) := hcs 6 (by simp) (by decide)
  obtain ⟨_, e7⟩ : ∃ _w : World, vals 7 = .agg (u8s 128 (fmF (cf A) (cf RB))) := hcs 7 (by simp) (by decide)
  obtain ⟨_, e8⟩ : ∃ _w : World, vals 8 = .agg (u8s 128 (fmF (cf R1) (cf R2))) := hcs 8 (by simp) (by decide)
  have hsE0 : Blk xE (w.heap.size + 1 + 1 + 1) (u8s 128 (fmF (cf R1) (cf R2))) 30 := hrs 0 (by decide)
  simp only [List.length_cons, List.length_nil, Nat.zero_add, Nat.reduceAdd, List.replicate, putAll, if_true, Act.put, List.setIfInBounds_toArray, List.set_cons_zero, List.set_cons_succ, e0, e1, e2, e3, e4, e5, e6, e7, e8]
  replace hD := hSx.1
  replace h24 := hSx.2.1
  replace hM0 := hSx.2.2.1
  clear hcs hrs hS0 hSx e0 e1 e2 e3 e4 e5 e6 e7 e8
  go_wp2_with fail
  exact bodyPost_ret (res_s rfl rfl hsE0 tForm sForm) rfl ⟨rfl, hBx⟩
end Go.Proofs.Ytohgjihccjnheab

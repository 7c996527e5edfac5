/- Walks: composition of forms, the program's side. -/
import Derived.Test.YtohgjihccjnheabD12
set_option linter.unusedVariables false
set_option linter.unusedSimpArgs false
namespace Go.Proofs.Ytohgjihccjnheab
open Go.RowKit

theorem Blk.two0 {w : World} {g T : Nat} {x y : Value} (h : Blk w g #[x, y] T) : w.cell? ⟨g, 0, none⟩ = some x := by rw [h.cell]; rfl
theorem Blk.two1 {w : World} {g T : Nat} {x y : Value} (h : Blk w g #[x, y] T) : w.cell? ⟨g, 1, none⟩ = some y := by rw [h.cell]; rfl

set_option maxRecDepth 20000 in
set_option maxHeartbeats 2000000 in
theorem composeF_any (vd va1 vb1 va2 vb2 : Value) (p : Int) (ds a1 b1 a2 b2 : List Int) (w : World) (hd : IsRow w vd ds) (ha1 : IsRow w va1 a1) (hb1 : IsRow w vb1 b1) (ha2 : IsRow w va2 a2) (hb2 : IsRow w vb2 b2) (hx : Rdd p ds (a1, b1)) (hy : Rdd p ds (a2, b2)) :
    Calls Try.prog 37 #[.agg #[.int .i64 p, vd], .agg #[va1, vb1], .agg #[va2, vb2]] w fun e w' => ∃ va vb, e = .returned (.agg #[va, vb]) ∧ IsRow w' va (cpr p ds (a1, b1) (a2, b2)).1 ∧ IsRow w' vb (cpr p ds (a1, b1) (a2, b2)).2 ∧ Below w.heap.size w w' := by
  obtain ⟨sm, o, u, vv, d, ww, t, r, s, sq, pr, A, RO, bo, ra, t1, sa, t2, top, bd, la, N, BQ, BR, RB, P⟩ := cmp_parts hx hy
  have m_red := fun va vb w (h0 : IsRow w vd ds) (h1 : IsRow w va A) (h2 : IsRow w vb RB) => reduced_any vd va vb p ds A RB w h0 h1 h2 P.rd
  have hcp : cpr p ds (a1, b1) (a2, b2) = red p ds 13 A RB := by unfold cpr; rw [show cmp p ds (a1, b1).1 (a1, b1).2 (a2, b2).1 (a2, b2).2 = (A, RB) from P.cmp]
  rw [hcp]
  obtain ⟨R1, hR1⟩ : ∃ R, (red p ds 13 A RB).1 = R := ⟨_, rfl⟩
  obtain ⟨R2, hR2⟩ : ∃ R, (red p ds 13 A RB).2 = R := ⟨_, rfl⟩
  rw [hR1, hR2] at m_red ⊢
  have m_b1 := fun va vb w (ha : IsRow w va a1) (hb : IsRow w vb a2) => bezout_any va vb a1 a2 p w P.p_ds.pr ha hb P.p_a1.po P.p_a2.po (Or.inl P.n_a1) P.p_a1.le P.p_a2.le
  rw [P.e_b1] at m_b1
  replace m_b1 := Lib.hid m_b1
  have m_sm := fun va vb w (ha : IsRow w va b1) (hb : IsRow w vb b2) => combine_any va vb b1 b2 p 1 w P.p_ds.pr ha hb P.p_b1.po.md P.p_b2.po.md (by decide) (by decide) (by have := P.p_b1.le; omega) (by have := P.p_b2.le; omega)
  rw [P.e_sm] at m_sm
  replace m_sm := Lib.hid m_sm
  have m_b2 := fun va vb w (ha : IsRow w va o) (hb : IsRow w vb sm) => bezout_any va vb o sm p w P.p_ds.pr ha hb P.p_o.po P.p_sm.po (Or.inl P.n_o) P.p_o.le P.p_sm.le
  rw [P.e_b2] at m_b2
  replace m_b2 := Lib.hid m_b2
  have m_r := fun va vb w (ha : IsRow w va ww) (hb : IsRow w vb u) => times_any va vb ww u p w P.p_ds.pr ha hb P.p_w.po.md P.p_u.po.md (by have := P.p_w.le; omega) (by have := P.p_u.le; omega)
  rw [P.e_r] at m_r
  replace m_r := Lib.hid m_r
  have m_s := fun va vb w (ha : IsRow w va ww) (hb : IsRow w vb vv) => times_any va vb ww vv p w P.p_ds.pr ha hb P.p_w.po.md P.p_v.po.md (by have := P.p_w.le; omega) (by have := P.p_v.le; omega)
  rw [P.e_s] at m_s
  replace m_s := Lib.hid m_s
  have m_pr := fun va vb w (ha : IsRow w va a1) (hb : IsRow w vb a2) => times_any va vb a1 a2 p w P.p_ds.pr ha hb P.p_a1.po.md P.p_a2.po.md (by have := P.p_a1.le; omega) (by have := P.p_a2.le; omega)
  rw [P.e_pr] at m_pr
  replace m_pr := Lib.hid m_pr
  have m_sq := fun va vb w (ha : IsRow w va d) (hb : IsRow w vb d) => times_any va vb d d p w P.p_ds.pr ha hb P.p_d.po.md P.p_d.po.md (by have := P.p_d.le; omega) (by have := P.p_d.le; omega)
  rw [P.e_sq] at m_sq
  replace m_sq := Lib.hid m_sq
  have m_A := fun va vb w (ha : IsRow w va pr) (hb : IsRow w vb sq) => divide_any va vb pr sq p w P.p_ds.pr ha hb P.p_pr.po P.p_sq.po P.n_sq (by have := P.p_pr.le; omega) (by have := P.p_sq.le; omega)
  rw [P.e_A] at m_A
  replace m_A := Lib.hid m_A
  have m_ra := fun va vb w (ha : IsRow w va r) (hb : IsRow w vb a1) => times_any va vb r a1 p w P.p_ds.pr ha hb P.p_r.po.md P.p_a1.po.md (by have := P.p_r.le; omega) (by have := P.p_a1.le; omega)
  rw [P.e_ra] at m_ra
  replace m_ra := Lib.hid m_ra
  have m_t1 := fun va vb w (ha : IsRow w va ra) (hb : IsRow w vb b2) => times_any va vb ra b2 p w P.p_ds.pr ha hb P.p_ra.po.md P.p_b2.po.md (by have := P.p_ra.le; omega) (by have := P.p_b2.le; omega)
  rw [P.e_t1] at m_t1
  replace m_t1 := Lib.hid m_t1
  have m_sa := fun va vb w (ha : IsRow w va s) (hb : IsRow w vb a2) => times_any va vb s a2 p w P.p_ds.pr ha hb P.p_s.po.md P.p_a2.po.md (by have := P.p_s.le; omega) (by have := P.p_a2.le; omega)
  rw [P.e_sa] at m_sa
  replace m_sa := Lib.hid m_sa
  have m_t2 := fun va vb w (ha : IsRow w va sa) (hb : IsRow w vb b1) => times_any va vb sa b1 p w P.p_ds.pr ha hb P.p_sa.po.md P.p_b1.po.md (by have := P.p_sa.le; omega) (by have := P.p_b1.le; omega)
  rw [P.e_t2] at m_t2
  replace m_t2 := Lib.hid m_t2
  have m_top := fun va vb w (ha : IsRow w va t1) (hb : IsRow w vb t2) => combine_any va vb t1 t2 p 1 w P.p_ds.pr ha hb P.p_t1.po.md P.p_t2.po.md (by decide) (by decide) (by have := P.p_t1.le; omega) (by have := P.p_t2.le; omega)
  rw [P.e_top] at m_top
  replace m_top := Lib.hid m_top
  have m_bo := fun va vb w (ha : IsRow w va b1) (hb : IsRow w vb b2) => times_any va vb b1 b2 p w P.p_ds.pr ha hb P.p_b1.po.md P.p_b2.po.md (by have := P.p_b1.le; omega) (by have := P.p_b2.le; omega)
  rw [P.e_bo] at m_bo
  replace m_bo := Lib.hid m_bo
  have m_bd := fun va vb w (ha : IsRow w va bo) (hb : IsRow w vb ds) => combine_any va vb bo ds p 1 w P.p_ds.pr ha hb P.p_bo.po.md P.p_ds.po.md (by decide) (by decide) (by have := P.p_bo.le; omega) (by have := P.p_ds.le; omega)
  rw [P.e_bd] at m_bd
  replace m_bd := Lib.hid m_bd
  have m_la := fun va vb w (ha : IsRow w va t) (hb : IsRow w vb bd) => times_any va vb t bd p w P.p_ds.pr ha hb P.p_t.po.md P.p_bd.po.md (by have := P.p_t.le; omega) (by have := P.p_bd.le; omega)
  rw [P.e_la] at m_la
  replace m_la := Lib.hid m_la
  have m_N := fun va vb w (ha : IsRow w va top) (hb : IsRow w vb la) => combine_any va vb top la p 1 w P.p_ds.pr ha hb P.p_top.po.md P.p_la.po.md (by decide) (by decide) (by have := P.p_top.le; omega) (by have := P.p_la.le; omega)
  rw [P.e_N] at m_N
  replace m_N := Lib.hid m_N
  have m_B := fun va vb w (ha : IsRow w va N) (hb : IsRow w vb d) => divide_any va vb N d p w P.p_ds.pr ha hb P.p_N.po P.p_d.po P.n_d (by have := P.p_N.le; omega) (by have := P.p_d.le; omega)
  rw [P.e_B] at m_B
  replace m_B := Lib.hid m_B
  have m_R := fun va vb w (ha : IsRow w va BQ) (hb : IsRow w vb A) => rest_any va vb BQ A p w P.p_ds.pr ha hb P.p_BQ.po P.p_A.po P.n_A (by have := P.p_BQ.le; omega) (by have := P.p_A.le; omega)
  rw [P.e_R] at m_R
  replace m_R := Lib.hid m_R
  replace m_red := Lib.hid m_red
  clear P hcp hR1 hR2 hx hy
  obtain ⟨hb, hC, hF, hG, hZ⟩ := boxes4 w #[.int .i64 p, vd] #[va1, vb1] #[va2, vb2] #[.slice none 0 0, .slice none 0 0] 42 46 46 46
  have fds := Lib.hid (hd.below hb)
  have fa1 := Lib.hid (ha1.below hb)
  have fb1 := Lib.hid (hb1.below hb)
  have fa2 := Lib.hid (ha2.below hb)
  have fb2 := Lib.hid (hb2.below hb)
  clear hd ha1 hb1 ha2 hb2
  go_enter Try.func37, Try.ntmps37
  go_upto_region 1 with ((with_reducible refine wpl_guard ?_); first | (refine wpl_alloc_arr rfl 46 rfl _ zform ?_))
  simp only [size_alloc]
  have q30 := hC.two0
  have q31 := hC.two1
  have q40 := hF.two0
  have q41 := hF.two1
  have q50 := hG.two0
  have q51 := hG.two1
  go_wp2_with fail
  
  refine (m_b1.out _ _ _ fa1.out fa2.out).mono ?_
  rintro e u1 ⟨Vo, Vu, Vv, rfl, ko, ku, kv, hn⟩
  have fo := Lib.hid (show IsRow u1 Vo o from ko)
  clear ko
  have fu := Lib.hid (show IsRow u1 Vu u from ku)
  clear ku
  have fv := Lib.hid (show IsRow u1 Vv vv from kv)
  clear kv
  clear q30 q31 q40 q41 q50 q51
  replace hC := hC.keep hn
  replace hF := hF.keep hn
  replace hG := hG.keep hn
  replace hZ := hZ.keep hn
  replace fds := Lib.hid (fds.out.below hn)
  replace fa1 := Lib.hid (fa1.out.below hn)
  replace fb1 := Lib.hid (fb1.out.below hn)
  replace fa2 := Lib.hid (fa2.out.below hn)
  replace fb2 := Lib.hid (fb2.out.below hn)
  replace hb := below_step hb hn
  clear hn
  go_upto_region 2 with (fail)
  have q30 := hC.two0
  have q31 := hC.two1
  have q40 := hF.two0
  have q41 := hF.two1
  have q50 := hG.two0
  have q51 := hG.two1
  go_wp2_with fail
  refine (m_sm.out _ _ _ fb1.out fb2.out).mono ?_
  rintro e u2 ⟨Vsm, rfl, ksm, hn⟩
  have fsm := Lib.hid (show IsRow u2 Vsm sm from ksm)
  clear ksm
  clear q30 q31 q40 q41 q50 q51
  replace hC := hC.keep hn
  replace hF := hF.keep hn
  replace hG := hG.keep hn
  replace hZ := hZ.keep hn
  replace fds := Lib.hid (fds.out.below hn)
  replace fa1 := Lib.hid (fa1.out.below hn)
  replace fb1 := Lib.hid (fb1.out.below hn)
  replace fa2 := Lib.hid (fa2.out.below hn)
  replace fb2 := Lib.hid (fb2.out.below hn)
  replace fo := Lib.hid (fo.out.below hn)
  replace fu := Lib.hid (fu.out.below hn)
  replace fv := Lib.hid (fv.out.below hn)
  replace hb := below_step hb hn
  clear hn
  go_upto_region 3 with (fail)
  have q30 := hC.two0
  have q31 := hC.two1
  have q40 := hF.two0
  have q41 := hF.two1
  have q50 := hG.two0
  have q51 := hG.two1
  go_wp2_with fail
  refine (m_b2.out _ _ _ fo.out fsm.out).mono ?_
  rintro e u3 ⟨Vd, Vw, Vt, rfl, kd, kw, kt, hn⟩
  have fd := Lib.hid (show IsRow u3 Vd d from kd)
  clear kd
  have fw := Lib.hid (show IsRow u3 Vw ww from kw)
  clear kw
  have ft := Lib.hid (show IsRow u3 Vt t from kt)
  clear kt
  clear q30 q31 q40 q41 q50 q51
  replace hC := hC.keep hn
  replace hF := hF.keep hn
  replace hG := hG.keep hn
  replace hZ := hZ.keep hn
  replace fds := Lib.hid (fds.out.below hn)
  replace fa1 := Lib.hid (fa1.out.below hn)
  replace fb1 := Lib.hid (fb1.out.below hn)
  replace fa2 := Lib.hid (fa2.out.below hn)
  replace fb2 := Lib.hid (fb2.out.below hn)
  replace fo := Lib.hid (fo.out.below hn)
  replace fu := Lib.hid (fu.out.below hn)
  replace fv := Lib.hid (fv.out.below hn)
  replace fsm := Lib.hid (fsm.out.below hn)
  replace hb := below_step hb hn
  clear hn
  go_upto_region 4 with (fail)
  refine gen_region (ws := w) (w := _) (B := w.heap.size) (by kernel_rfl) (by kernel_rfl) (by kernel_rfl) (by kernel_rfl)
      (fun i => ([fun zv _ => zv = .pointer (some ⟨w.heap.size, 0 + 0, none⟩), fun zv _ => zv = .int .i64 p, fun v w => IsRow w v (ww), fun v w => IsRow w v (u), fun v w => IsRow w v (r), fun zv _ => zv = .pointer (some ⟨w.heap.size, 0 + 0, none⟩), fun zv _ => zv = .int .i64 p, fun v w => IsRow w v (ww), fun v w => IsRow w v (vv), fun v w => IsRow w v (s), fun v w => IsRow w v (r), fun v w => IsRow w v (s)] : List (Value → World → Prop)).getD i (fun _ _ => True))
      (fun i => ([false, false, false, false, false, false, false, false, false, false, false, false] : List Bool).getD i true)
      0 (fun zk => [].getD zk 0) (fun zk => [].getD zk 0) (fun zk => [].getD zk 0) (fun zk => [].getD zk 0) (fun zk => [].getD zk 0) (fun zk => [].getD zk 0) (fun zk => [].getD zk (fun _ => 0)) (fun zk => [].getD zk (fun _ => 0)) (fun zk => [].getD zk 0) hb (Nat.le_refl _)
      (fun w' => Blk w' (w.heap.size) (#[.int .i64 p, vd]) 42 ∧ Blk w' (w.heap.size + 1) (#[va1, vb1]) 46 ∧ Blk w' (w.heap.size + 1 + 1) (#[va2, vb2]) 46 ∧ True) ⟨hC.drew, hF.drew, hG.drew, trivial⟩ (fun w1 w2 h hb => ⟨h.1.keep hb, h.2.1.keep hb, h.2.2.1.keep hb, trivial⟩) ?_ ?_ ?_ ?_ ?_ ?_ ?_
  · exact fun k hk => absurd hk (by omega)
  · intro i v w1 w2 h hb
    rcases i with _|_|_|_|_|_|_|_|_|_|_|_|i
    · exact h
    · exact h
    · exact (show IsRow w1 v (ww) from h).below hb
    · exact (show IsRow w1 v (u) from h).below hb
    · exact (show IsRow w1 v (r) from h).below hb
    · exact h
    · exact h
    · exact (show IsRow w1 v (ww) from h).below hb
    · exact (show IsRow w1 v (vv) from h).below hb
    · exact (show IsRow w1 v (s) from h).below hb
    · exact (show IsRow w1 v (r) from h).below hb
    · exact (show IsRow w1 v (s) from h).below hb
    · exact h
  · exact fun k hk => absurd hk (by omega)
  · exact fun k hk => absurd hk (by omega)
  · kernel_rfl
  · intro i o ho hz a w2 hBs hSx hBl hrd hpar
    rcases i with _|_|_|_|_|_|_|_|_|_|_|_|i
    · obtain rfl := Option.some.inj ho
      exact wpv_of (wp_fieldB 42 _ 0 rfl 0 1 fcurve0 (w.heap.size) 0 (hpar 3 _ (by kernel_rfl) (by kernel_rfl))) (fun _ _ => rfl)
    · obtain rfl := Option.some.inj ho
      obtain ⟨_, e46⟩ : ∃ _w : World, a.eval (.tmp 46) = .pointer (some ⟨w.heap.size, 0 + 0, none⟩) := (hrd 0 _ 46 rfl rfl (by kernel_rfl) (by kernel_rfl) (by decide)).1
      exact wpv_of (wp_load_cell 38 _ rfl _ e46 .i64 uPrime _ (by rw [hSx.1.cell]; rfl)) (fun _ _ => rfl)
    · obtain rfl := Option.some.inj ho
      have e12 : a.eval (.tmp 12) = Vw := hpar 12 _ (by kernel_rfl) (by kernel_rfl)
      have h12 := (fw.out).below (hBl rfl)
      exact wpv_of (wp_move _ _ rfl e12) (fun w' hb => h12.below hb)
    · obtain rfl := Option.some.inj ho
      have e8 : a.eval (.tmp 8) = Vu := hpar 8 _ (by kernel_rfl) (by kernel_rfl)
      have h8 := (fu.out).below (hBl rfl)
      exact wpv_of (wp_move _ _ rfl e8) (fun w' hb => h8.below hb)
    · obtain rfl := Option.some.inj ho
      obtain ⟨_, e47⟩ : ∃ _w : World, a.eval (.tmp 47) = .int .i64 p := (hrd 1 _ 47 rfl rfl (by kernel_rfl) (by kernel_rfl) (by decide)).1
      have h48 : (fun v w => IsRow w v (ww)) (a.eval (.tmp 48)) w2 := (hrd 2 _ 48 rfl rfl (by kernel_rfl) (by kernel_rfl) (by decide)).2 rfl
      generalize e48 : a.eval (.tmp 48) = v48 at h48
      have h49 : (fun v w => IsRow w v (u)) (a.eval (.tmp 49)) w2 := (hrd 3 _ 49 rfl rfl (by kernel_rfl) (by kernel_rfl) (by decide)).2 rfl
      generalize e49 : a.eval (.tmp 49) = v49 at h49
      exact wpv_call 50 [.tmp 47, .tmp 48, .tmp 49] _ rfl [.int .i64 p, v48, v49] (by simp only [List.map_cons, List.map_nil, e47, e48, e49]) Try.call50 (m_r.out _ _ w2 h48 h49)
    · obtain rfl := Option.some.inj ho
      exact wpv_of (wp_fieldB 42 _ 0 rfl 0 1 fcurve0 (w.heap.size) 0 (hpar 3 _ (by kernel_rfl) (by kernel_rfl))) (fun _ _ => rfl)
    · obtain rfl := Option.some.inj ho
      obtain ⟨_, e51⟩ : ∃ _w : World, a.eval (.tmp 51) = .pointer (some ⟨w.heap.size, 0 + 0, none⟩) := (hrd 5 _ 51 rfl rfl (by kernel_rfl) (by kernel_rfl) (by decide)).1
      exact wpv_of (wp_load_cell 38 _ rfl _ e51 .i64 uPrime _ (by rw [hSx.1.cell]; rfl)) (fun _ _ => rfl)
    · obtain rfl := Option.some.inj ho
      have e12 : a.eval (.tmp 12) = Vw := hpar 12 _ (by kernel_rfl) (by kernel_rfl)
      have h12 := (fw.out).below (hBl rfl)
      exact wpv_of (wp_move _ _ rfl e12) (fun w' hb => h12.below hb)
    · obtain rfl := Option.some.inj ho
      have e9 : a.eval (.tmp 9) = Vv := hpar 9 _ (by kernel_rfl) (by kernel_rfl)
      have h9 := (fv.out).below (hBl rfl)
      exact wpv_of (wp_move _ _ rfl e9) (fun w' hb => h9.below hb)
    · obtain rfl := Option.some.inj ho
      obtain ⟨_, e52⟩ : ∃ _w : World, a.eval (.tmp 52) = .int .i64 p := (hrd 6 _ 52 rfl rfl (by kernel_rfl) (by kernel_rfl) (by decide)).1
      have h53 : (fun v w => IsRow w v (ww)) (a.eval (.tmp 53)) w2 := (hrd 7 _ 53 rfl rfl (by kernel_rfl) (by kernel_rfl) (by decide)).2 rfl
      generalize e53 : a.eval (.tmp 53) = v53 at h53
      have h54 : (fun v w => IsRow w v (vv)) (a.eval (.tmp 54)) w2 := (hrd 8 _ 54 rfl rfl (by kernel_rfl) (by kernel_rfl) (by decide)).2 rfl
      generalize e54 : a.eval (.tmp 54) = v54 at h54
      exact wpv_call 50 [.tmp 52, .tmp 53, .tmp 54] _ rfl [.int .i64 p, v53, v54] (by simp only [List.map_cons, List.map_nil, e52, e53, e54]) Try.call50 (m_s.out _ _ w2 h53 h54)
    · obtain rfl := Option.some.inj ho
      have h50 : (fun v w => IsRow w v (r)) (a.eval (.tmp 50)) w2 := (hrd 4 _ 50 rfl rfl (by kernel_rfl) (by kernel_rfl) (by decide)).2 rfl
      generalize e50 : a.eval (.tmp 50) = v50 at h50
      exact wpv_of (wp_assign _ _ rfl e50) (fun w' hb => h50.below hb)
    · obtain rfl := Option.some.inj ho
      have h55 : (fun v w => IsRow w v (s)) (a.eval (.tmp 55)) w2 := (hrd 9 _ 55 rfl rfl (by kernel_rfl) (by kernel_rfl) (by decide)).2 rfl
      generalize e55 : a.eval (.tmp 55) = v55 at h55
      exact wpv_of (wp_assign _ _ rfl e55) (fun w' hb => h55.below hb)
    · simp at ho
  intro vals xD hBx hSx hS0 hcs hrs
  obtain ⟨hBl, hc0⟩ := hS0 rfl
  have e0 : vals 0 = .pointer (some ⟨w.heap.size, 0 + 0, none⟩) := hc0 0 (by simp)
  have e1 : vals 1 = .int .i64 p := hc0 1 (by simp)
  have cD2 : (fun v w => IsRow w v (ww)) (vals 2) xD := hc0 2 (by simp)
  generalize ev2 : vals 2 = uD2 at cD2
  have cD3 : (fun v w => IsRow w v (u)) (vals 3) xD := hc0 3 (by simp)
  generalize ev3 : vals 3 = uD3 at cD3
  have cD4 : (fun v w => IsRow w v (r)) (vals 4) xD := hc0 4 (by simp)
  generalize ev4 : vals 4 = uD4 at cD4
  have e5 : vals 5 = .pointer (some ⟨w.heap.size, 0 + 0, none⟩) := hc0 5 (by simp)
  have e6 : vals 6 = .int .i64 p := hc0 6 (by simp)
  have cD7 : (fun v w => IsRow w v (ww)) (vals 7) xD := hc0 7 (by simp)
  generalize ev7 : vals 7 = uD7 at cD7
  have cD8 : (fun v w => IsRow w v (vv)) (vals 8) xD := hc0 8 (by simp)
  generalize ev8 : vals 8 = uD8 at cD8
  have cD9 : (fun v w => IsRow w v (s)) (vals 9) xD := hc0 9 (by simp)
  generalize ev9 : vals 9 = uD9 at cD9
  have cD10 : (fun v w => IsRow w v (r)) (vals 10) xD := hc0 10 (by simp)
  generalize ev10 : vals 10 = uD10 at cD10
  have cD11 : (fun v w => IsRow w v (s)) (vals 11) xD := hc0 11 (by simp)
  generalize ev11 : vals 11 = uD11 at cD11
  simp only [List.length_cons, List.length_nil, Nat.zero_add, Nat.reduceAdd, List.replicate, putAll, if_true, Act.put, List.setIfInBounds_toArray, List.set_cons_zero, List.set_cons_succ, e0, e1, ev2, ev3, ev4, e5, e6, ev7, ev8, ev9, ev10, ev11]
  replace hZ := hZ.keep hBl
  replace hC := hSx.1
  replace hF := hSx.2.1
  replace hG := hSx.2.2.1
  clear hcs hrs hS0 hSx e0 e1 ev2 ev3 ev4 e5 e6 ev7 ev8 ev9 ev10 ev11 hc0
  replace hb := hBx
  clear hBx
  replace fds := Lib.hid (fds.out.below hBl)
  replace fa1 := Lib.hid (fa1.out.below hBl)
  replace fb1 := Lib.hid (fb1.out.below hBl)
  replace fa2 := Lib.hid (fa2.out.below hBl)
  replace fb2 := Lib.hid (fb2.out.below hBl)
  replace fo := Lib.hid (fo.out.below hBl)
  replace fu := Lib.hid (fu.out.below hBl)
  replace fv := Lib.hid (fv.out.below hBl)
  replace fsm := Lib.hid (fsm.out.below hBl)
  replace fd := Lib.hid (fd.out.below hBl)
  replace fw := Lib.hid (fw.out.below hBl)
  replace ft := Lib.hid (ft.out.below hBl)
  have fr := Lib.hid (show IsRow xD uD10 r from cD10)
  have fs := Lib.hid (show IsRow xD uD11 s from cD11)
  clear hBl cD10 cD11 cD2 cD3 cD4 cD7 cD8 cD9
  clear fo fsm fw fu fv
  go_upto_region 5 with (fail)
  refine gen_region (ws := w) (w := _) (B := w.heap.size) (by kernel_rfl) (by kernel_rfl) (by kernel_rfl) (by kernel_rfl)
      (fun i => ([fun zv _ => zv = .pointer (some ⟨w.heap.size, 0 + 0, none⟩), fun zv _ => zv = .int .i64 p, fun zv _ => zv = .pointer (some ⟨w.heap.size, 0 + 0, none⟩), fun zv _ => zv = .int .i64 p, fun zv _ => zv = .pointer (some ⟨w.heap.size + 1, 0 + 0, none⟩), fun zv _ => zv = va1, fun zv _ => zv = .pointer (some ⟨w.heap.size + 1 + 1, 0 + 0, none⟩), fun zv _ => zv = va2, fun v w => IsRow w v (pr), fun zv _ => zv = .pointer (some ⟨w.heap.size, 0 + 0, none⟩), fun zv _ => zv = .int .i64 p, fun v w => IsRow w v (d), fun v w => IsRow w v (d), fun v w => IsRow w v (sq), fun v w => ∃ v1 v2, v = .tuple #[v1, v2] ∧ IsRow w v1 (A) ∧ IsRow w v2 (RO), fun v w => ∃ v1 v2, v = .tuple #[v1, v2] ∧ IsRow w v1 (A) ∧ IsRow w v2 (RO), fun v w => IsRow w v (A), fun v w => IsRow w v (RO), fun v w => IsRow w v (A), fun v w => IsRow w v (RO)] : List (Value → World → Prop)).getD i (fun _ _ => True))
      (fun i => ([false, false, false, false, false, false, false, false, false, false, false, false, false, false, false, false, false, false, false, false] : List Bool).getD i true)
      0 (fun zk => [].getD zk 0) (fun zk => [].getD zk 0) (fun zk => [].getD zk 0) (fun zk => [].getD zk 0) (fun zk => [].getD zk 0) (fun zk => [].getD zk 0) (fun zk => [].getD zk (fun _ => 0)) (fun zk => [].getD zk (fun _ => 0)) (fun zk => [].getD zk 0) hb (Nat.le_refl _)
      (fun w' => Blk w' (w.heap.size) (#[.int .i64 p, vd]) 42 ∧ Blk w' (w.heap.size + 1) (#[va1, vb1]) 46 ∧ Blk w' (w.heap.size + 1 + 1) (#[va2, vb2]) 46 ∧ True) ⟨hC.drew, hF.drew, hG.drew, trivial⟩ (fun w1 w2 h hb => ⟨h.1.keep hb, h.2.1.keep hb, h.2.2.1.keep hb, trivial⟩) ?_ ?_ ?_ ?_ ?_ ?_ ?_
  · exact fun k hk => absurd hk (by omega)
  · intro i v w1 w2 h hb
    rcases i with _|_|_|_|_|_|_|_|_|_|_|_|_|_|_|_|_|_|_|_|i
    · exact h
    · exact h
    · exact h
    · exact h
    · exact h
    · exact h
    · exact h
    · exact h
    · exact (show IsRow w1 v (pr) from h).below hb
    · exact h
    · exact h
    · exact (show IsRow w1 v (d) from h).below hb
    · exact (show IsRow w1 v (d) from h).below hb
    · exact (show IsRow w1 v (sq) from h).below hb
    · obtain ⟨v1, v2, e, h1, h2⟩ := h; exact ⟨v1, v2, e, h1.below hb, h2.below hb⟩
    · obtain ⟨v1, v2, e, h1, h2⟩ := h; exact ⟨v1, v2, e, h1.below hb, h2.below hb⟩
    · exact (show IsRow w1 v (A) from h).below hb
    · exact (show IsRow w1 v (RO) from h).below hb
    · exact (show IsRow w1 v (A) from h).below hb
    · exact (show IsRow w1 v (RO) from h).below hb
    · exact h
  · exact fun k hk => absurd hk (by omega)
  · exact fun k hk => absurd hk (by omega)
  · kernel_rfl
  · intro i o ho hz a w2 hBs hSx hBl hrd hpar
    rcases i with _|_|_|_|_|_|_|_|_|_|_|_|_|_|_|_|_|_|_|_|i
    · obtain rfl := Option.some.inj ho
      exact wpv_of (wp_fieldB 42 _ 0 rfl 0 1 fcurve0 (w.heap.size) 0 (hpar 3 _ (by kernel_rfl) (by kernel_rfl))) (fun _ _ => rfl)
    · obtain rfl := Option.some.inj ho
      obtain ⟨_, e57⟩ : ∃ _w : World, a.eval (.tmp 57) = .pointer (some ⟨w.heap.size, 0 + 0, none⟩) := (hrd 0 _ 57 rfl rfl (by kernel_rfl) (by kernel_rfl) (by decide)).1
      exact wpv_of (wp_load_cell 38 _ rfl _ e57 .i64 uPrime _ (by rw [hSx.1.cell]; rfl)) (fun _ _ => rfl)
    · obtain rfl := Option.some.inj ho
      exact wpv_of (wp_fieldB 42 _ 0 rfl 0 1 fcurve0 (w.heap.size) 0 (hpar 3 _ (by kernel_rfl) (by kernel_rfl))) (fun _ _ => rfl)
    · obtain rfl := Option.some.inj ho
      obtain ⟨_, e59⟩ : ∃ _w : World, a.eval (.tmp 59) = .pointer (some ⟨w.heap.size, 0 + 0, none⟩) := (hrd 2 _ 59 rfl rfl (by kernel_rfl) (by kernel_rfl) (by decide)).1
      exact wpv_of (wp_load_cell 38 _ rfl _ e59 .i64 uPrime _ (by rw [hSx.1.cell]; rfl)) (fun _ _ => rfl)
    · obtain rfl := Option.some.inj ho
      exact wpv_of (wp_fieldB 46 _ 0 rfl 0 1 fform0 (w.heap.size + 1) 0 (hpar 4 _ (by kernel_rfl) (by kernel_rfl))) (fun _ _ => rfl)
    · obtain rfl := Option.some.inj ho
      obtain ⟨_, e61⟩ : ∃ _w : World, a.eval (.tmp 61) = .pointer (some ⟨w.heap.size + 1, 0 + 0, none⟩) := (hrd 4 _ 61 rfl rfl (by kernel_rfl) (by kernel_rfl) (by decide)).1
      exact wpv_of (wp_load_slice 40 2 _ rfl _ e61 uRowT _ (by rw [hSx.2.1.cell]; rfl)) (fun _ _ => rfl)
    · obtain rfl := Option.some.inj ho
      exact wpv_of (wp_fieldB 46 _ 0 rfl 0 1 fform0 (w.heap.size + 1 + 1) 0 (hpar 5 _ (by kernel_rfl) (by kernel_rfl))) (fun _ _ => rfl)
    · obtain rfl := Option.some.inj ho
      obtain ⟨_, e63⟩ : ∃ _w : World, a.eval (.tmp 63) = .pointer (some ⟨w.heap.size + 1 + 1, 0 + 0, none⟩) := (hrd 6 _ 63 rfl rfl (by kernel_rfl) (by kernel_rfl) (by decide)).1
      exact wpv_of (wp_load_slice 40 2 _ rfl _ e63 uRowT _ (by rw [hSx.2.2.1.cell]; rfl)) (fun _ _ => rfl)
    · obtain rfl := Option.some.inj ho
      obtain ⟨_, e60⟩ : ∃ _w : World, a.eval (.tmp 60) = .int .i64 p := (hrd 3 _ 60 rfl rfl (by kernel_rfl) (by kernel_rfl) (by decide)).1
      obtain ⟨_, e62⟩ : ∃ _w : World, a.eval (.tmp 62) = va1 := (hrd 5 _ 62 rfl rfl (by kernel_rfl) (by kernel_rfl) (by decide)).1
      obtain ⟨_, e64⟩ : ∃ _w : World, a.eval (.tmp 64) = va2 := (hrd 7 _ 64 rfl rfl (by kernel_rfl) (by kernel_rfl) (by decide)).1
      exact wpv_call 50 [.tmp 60, .tmp 62, .tmp 64] _ rfl [.int .i64 p, va1, va2] (by simp only [List.map_cons, List.map_nil, e60, e62, e64]) Try.call50 (m_pr.out _ _ w2 (fa1.out.below (hBl rfl)) (fa2.out.below (hBl rfl)))
    · obtain rfl := Option.some.inj ho
      exact wpv_of (wp_fieldB 42 _ 0 rfl 0 1 fcurve0 (w.heap.size) 0 (hpar 3 _ (by kernel_rfl) (by kernel_rfl))) (fun _ _ => rfl)
    · obtain rfl := Option.some.inj ho
      obtain ⟨_, e66⟩ : ∃ _w : World, a.eval (.tmp 66) = .pointer (some ⟨w.heap.size, 0 + 0, none⟩) := (hrd 9 _ 66 rfl rfl (by kernel_rfl) (by kernel_rfl) (by decide)).1
      exact wpv_of (wp_load_cell 38 _ rfl _ e66 .i64 uPrime _ (by rw [hSx.1.cell]; rfl)) (fun _ _ => rfl)
    · obtain rfl := Option.some.inj ho
      have e11 : a.eval (.tmp 11) = Vd := hpar 11 _ (by kernel_rfl) (by kernel_rfl)
      have h11 := (fd.out).below (hBl rfl)
      exact wpv_of (wp_move _ _ rfl e11) (fun w' hb => h11.below hb)
    · obtain rfl := Option.some.inj ho
      have e11 : a.eval (.tmp 11) = Vd := hpar 11 _ (by kernel_rfl) (by kernel_rfl)
      have h11 := (fd.out).below (hBl rfl)
      exact wpv_of (wp_move _ _ rfl e11) (fun w' hb => h11.below hb)
    · obtain rfl := Option.some.inj ho
      obtain ⟨_, e67⟩ : ∃ _w : World, a.eval (.tmp 67) = .int .i64 p := (hrd 10 _ 67 rfl rfl (by kernel_rfl) (by kernel_rfl) (by decide)).1
      have h68 : (fun v w => IsRow w v (d)) (a.eval (.tmp 68)) w2 := (hrd 11 _ 68 rfl rfl (by kernel_rfl) (by kernel_rfl) (by decide)).2 rfl
      generalize e68 : a.eval (.tmp 68) = v68 at h68
      have h69 : (fun v w => IsRow w v (d)) (a.eval (.tmp 69)) w2 := (hrd 12 _ 69 rfl rfl (by kernel_rfl) (by kernel_rfl) (by decide)).2 rfl
      generalize e69 : a.eval (.tmp 69) = v69 at h69
      exact wpv_call 50 [.tmp 67, .tmp 68, .tmp 69] _ rfl [.int .i64 p, v68, v69] (by simp only [List.map_cons, List.map_nil, e67, e68, e69]) Try.call50 (m_sq.out _ _ w2 h68 h69)
    · obtain rfl := Option.some.inj ho
      obtain ⟨_, e58⟩ : ∃ _w : World, a.eval (.tmp 58) = .int .i64 p := (hrd 1 _ 58 rfl rfl (by kernel_rfl) (by kernel_rfl) (by decide)).1
      have h65 : (fun v w => IsRow w v (pr)) (a.eval (.tmp 65)) w2 := (hrd 8 _ 65 rfl rfl (by kernel_rfl) (by kernel_rfl) (by decide)).2 rfl
      generalize e65 : a.eval (.tmp 65) = v65 at h65
      have h70 : (fun v w => IsRow w v (sq)) (a.eval (.tmp 70)) w2 := (hrd 13 _ 70 rfl rfl (by kernel_rfl) (by kernel_rfl) (by decide)).2 rfl
      generalize e70 : a.eval (.tmp 70) = v70 at h70
      exact wpv_call 70 [.tmp 58, .tmp 65, .tmp 70] _ rfl [.int .i64 p, v65, v70] (by simp only [List.map_cons, List.map_nil, e58, e65, e70]) Try.call70 ((m_A.out _ _ w2 h65 h70).mono fun _ _ ⟨v1, v2, h1, h2, h3, h4⟩ => ⟨_, h1, ⟨v1, v2, rfl, h2, h3⟩, h4⟩)
    · obtain rfl := Option.some.inj ho
      have h71 : (fun v w => ∃ v1 v2, v = .tuple #[v1, v2] ∧ IsRow w v1 (A) ∧ IsRow w v2 (RO)) (a.eval (.tmp 71)) w2 := (hrd 14 _ 71 rfl rfl (by kernel_rfl) (by kernel_rfl) (by decide)).2 rfl
      generalize e71 : a.eval (.tmp 71) = v71 at h71
      exact wpv_of (wp_move _ _ rfl e71) (fun w' hb => by have h := h71; obtain ⟨v1, v2, e, h1, h2⟩ := h; exact ⟨v1, v2, e, h1.below hb, h2.below hb⟩)
    · obtain rfl := Option.some.inj ho
      have h56 : (fun v w => ∃ v1 v2, v = .tuple #[v1, v2] ∧ IsRow w v1 (A) ∧ IsRow w v2 (RO)) (a.eval (.tmp 56)) w2 := (hrd 15 _ 56 rfl rfl (by kernel_rfl) (by kernel_rfl) (by decide)).2 rfl
      generalize e56 : a.eval (.tmp 56) = v56 at h56
      obtain ⟨q1, q2, eq, k1, k2⟩ := h56
      exact wpv_of (wp_extract _ 0 #[q1, q2] _ rfl (e56.trans eq) rfl) (fun w' hb => k1.below hb)
    · obtain rfl := Option.some.inj ho
      have h56 : (fun v w => ∃ v1 v2, v = .tuple #[v1, v2] ∧ IsRow w v1 (A) ∧ IsRow w v2 (RO)) (a.eval (.tmp 56)) w2 := (hrd 15 _ 56 rfl rfl (by kernel_rfl) (by kernel_rfl) (by decide)).2 rfl
      generalize e56 : a.eval (.tmp 56) = v56 at h56
      obtain ⟨q1, q2, eq, k1, k2⟩ := h56
      exact wpv_of (wp_extract _ 1 #[q1, q2] _ rfl (e56.trans eq) rfl) (fun w' hb => k2.below hb)
    · obtain rfl := Option.some.inj ho
      have h72 : (fun v w => IsRow w v (A)) (a.eval (.tmp 72)) w2 := (hrd 16 _ 72 rfl rfl (by kernel_rfl) (by kernel_rfl) (by decide)).2 rfl
      generalize e72 : a.eval (.tmp 72) = v72 at h72
      exact wpv_of (wp_assign _ _ rfl e72) (fun w' hb => h72.below hb)
    · obtain rfl := Option.some.inj ho
      have h73 : (fun v w => IsRow w v (RO)) (a.eval (.tmp 73)) w2 := (hrd 17 _ 73 rfl rfl (by kernel_rfl) (by kernel_rfl) (by decide)).2 rfl
      generalize e73 : a.eval (.tmp 73) = v73 at h73
      exact wpv_of (wp_assign _ _ rfl e73) (fun w' hb => h73.below hb)
    · simp at ho
  intro vals xE hBx hSx hS0 hcs hrs
  obtain ⟨hBl, hc0⟩ := hS0 rfl
  have e0 : vals 0 = .pointer (some ⟨w.heap.size, 0 + 0, none⟩) := hc0 0 (by simp)
  have e1 : vals 1 = .int .i64 p := hc0 1 (by simp)
  have e2 : vals 2 = .pointer (some ⟨w.heap.size, 0 + 0, none⟩) := hc0 2 (by simp)
  have e3 : vals 3 = .int .i64 p := hc0 3 (by simp)
  have e4 : vals 4 = .pointer (some ⟨w.heap.size + 1, 0 + 0, none⟩) := hc0 4 (by simp)
  have e5 : vals 5 = va1 := hc0 5 (by simp)
  have e6 : vals 6 = .pointer (some ⟨w.heap.size + 1 + 1, 0 + 0, none⟩) := hc0 6 (by simp)
  have e7 : vals 7 = va2 := hc0 7 (by simp)
  have cE8 : (fun v w => IsRow w v (pr)) (vals 8) xE := hc0 8 (by simp)
  generalize ev8 : vals 8 = uE8 at cE8
  have e9 : vals 9 = .pointer (some ⟨w.heap.size, 0 + 0, none⟩) := hc0 9 (by simp)
  have e10 : vals 10 = .int .i64 p := hc0 10 (by simp)
  have cE11 : (fun v w => IsRow w v (d)) (vals 11) xE := hc0 11 (by simp)
  generalize ev11 : vals 11 = uE11 at cE11
  have cE12 : (fun v w => IsRow w v (d)) (vals 12) xE := hc0 12 (by simp)
  generalize ev12 : vals 12 = uE12 at cE12
  have cE13 : (fun v w => IsRow w v (sq)) (vals 13) xE := hc0 13 (by simp)
  generalize ev13 : vals 13 = uE13 at cE13
  have cE14 : (fun v w => ∃ v1 v2, v = .tuple #[v1, v2] ∧ IsRow w v1 (A) ∧ IsRow w v2 (RO)) (vals 14) xE := hc0 14 (by simp)
  generalize ev14 : vals 14 = uE14 at cE14
  have cE15 : (fun v w => ∃ v1 v2, v = .tuple #[v1, v2] ∧ IsRow w v1 (A) ∧ IsRow w v2 (RO)) (vals 15) xE := hc0 15 (by simp)
  generalize ev15 : vals 15 = uE15 at cE15
  have cE16 : (fun v w => IsRow w v (A)) (vals 16) xE := hc0 16 (by simp)
  generalize ev16 : vals 16 = uE16 at cE16
  have cE17 : (fun v w => IsRow w v (RO)) (vals 17) xE := hc0 17 (by simp)
  generalize ev17 : vals 17 = uE17 at cE17
  have cE18 : (fun v w => IsRow w v (A)) (vals 18) xE := hc0 18 (by simp)
  generalize ev18 : vals 18 = uE18 at cE18
  have cE19 : (fun v w => IsRow w v (RO)) (vals 19) xE := hc0 19 (by simp)
  generalize ev19 : vals 19 = uE19 at cE19
  simp only [List.length_cons, List.length_nil, Nat.zero_add, Nat.reduceAdd, List.replicate, putAll, if_true, Act.put, List.setIfInBounds_toArray, List.set_cons_zero, List.set_cons_succ, e0, e1, e2, e3, e4, e5, e6, e7, ev8, e9, e10, ev11, ev12, ev13, ev14, ev15, ev16, ev17, ev18, ev19]
  replace hZ := hZ.keep hBl
  replace hC := hSx.1
  replace hF := hSx.2.1
  replace hG := hSx.2.2.1
  clear hcs hrs hS0 hSx e0 e1 e2 e3 e4 e5 e6 e7 ev8 e9 e10 ev11 ev12 ev13 ev14 ev15 ev16 ev17 ev18 ev19 hc0
  replace hb := hBx
  clear hBx
  replace fds := Lib.hid (fds.out.below hBl)
  replace fa1 := Lib.hid (fa1.out.below hBl)
  replace fb1 := Lib.hid (fb1.out.below hBl)
  replace fa2 := Lib.hid (fa2.out.below hBl)
  replace fb2 := Lib.hid (fb2.out.below hBl)
  replace fd := Lib.hid (fd.out.below hBl)
  replace ft := Lib.hid (ft.out.below hBl)
  replace fr := Lib.hid (fr.out.below hBl)
  replace fs := Lib.hid (fs.out.below hBl)
  have fA := Lib.hid (show IsRow xE uE18 A from cE18)
  clear hBl cE11 cE12 cE13 cE14 cE15 cE16 cE17 cE18 cE19 cE8
  go_upto_region 6 with (fail)
  refine gen_region (ws := w) (w := _) (B := w.heap.size) (by kernel_rfl) (by kernel_rfl) (by kernel_rfl) (by kernel_rfl)
      (fun i => ([fun zv _ => zv = .pointer (some ⟨w.heap.size, 0 + 0, none⟩), fun zv _ => zv = .int .i64 p, fun zv _ => zv = .pointer (some ⟨w.heap.size, 0 + 0, none⟩), fun zv _ => zv = .int .i64 p, fun v w => IsRow w v (r), fun zv _ => zv = .pointer (some ⟨w.heap.size + 1, 0 + 0, none⟩), fun zv _ => zv = va1, fun v w => IsRow w v (ra), fun zv _ => zv = .pointer (some ⟨w.heap.size + 1 + 1, 0 + 1, none⟩), fun zv _ => zv = vb2, fun v w => IsRow w v (t1), fun v w => IsRow w v (t1)] : List (Value → World → Prop)).getD i (fun _ _ => True))
      (fun i => ([false, false, false, false, false, false, false, false, false, false, false, false] : List Bool).getD i true)
      0 (fun zk => [].getD zk 0) (fun zk => [].getD zk 0) (fun zk => [].getD zk 0) (fun zk => [].getD zk 0) (fun zk => [].getD zk 0) (fun zk => [].getD zk 0) (fun zk => [].getD zk (fun _ => 0)) (fun zk => [].getD zk (fun _ => 0)) (fun zk => [].getD zk 0) hb (Nat.le_refl _)
      (fun w' => Blk w' (w.heap.size) (#[.int .i64 p, vd]) 42 ∧ Blk w' (w.heap.size + 1) (#[va1, vb1]) 46 ∧ Blk w' (w.heap.size + 1 + 1) (#[va2, vb2]) 46 ∧ True) ⟨hC.drew, hF.drew, hG.drew, trivial⟩ (fun w1 w2 h hb => ⟨h.1.keep hb, h.2.1.keep hb, h.2.2.1.keep hb, trivial⟩) ?_ ?_ ?_ ?_ ?_ ?_ ?_
  · exact fun k hk => absurd hk (by omega)
  · intro i v w1 w2 h hb
    rcases i with _|_|_|_|_|_|_|_|_|_|_|_|i
    · exact h
    · exact h
    · exact h
    · exact h
    · exact (show IsRow w1 v (r) from h).below hb
    · exact h
    · exact h
    · exact (show IsRow w1 v (ra) from h).below hb
    · exact h
    · exact h
    · exact (show IsRow w1 v (t1) from h).below hb
    · exact (show IsRow w1 v (t1) from h).below hb
    · exact h
  · exact fun k hk => absurd hk (by omega)
  · exact fun k hk => absurd hk (by omega)
  · kernel_rfl
  · intro i o ho hz a w2 hBs hSx hBl hrd hpar
    rcases i with _|_|_|_|_|_|_|_|_|_|_|_|i
    · obtain rfl := Option.some.inj ho
      exact wpv_of (wp_fieldB 42 _ 0 rfl 0 1 fcurve0 (w.heap.size) 0 (hpar 3 _ (by kernel_rfl) (by kernel_rfl))) (fun _ _ => rfl)
    · obtain rfl := Option.some.inj ho
      obtain ⟨_, e74⟩ : ∃ _w : World, a.eval (.tmp 74) = .pointer (some ⟨w.heap.size, 0 + 0, none⟩) := (hrd 0 _ 74 rfl rfl (by kernel_rfl) (by kernel_rfl) (by decide)).1
      exact wpv_of (wp_load_cell 38 _ rfl _ e74 .i64 uPrime _ (by rw [hSx.1.cell]; rfl)) (fun _ _ => rfl)
    · obtain rfl := Option.some.inj ho
      exact wpv_of (wp_fieldB 42 _ 0 rfl 0 1 fcurve0 (w.heap.size) 0 (hpar 3 _ (by kernel_rfl) (by kernel_rfl))) (fun _ _ => rfl)
    · obtain rfl := Option.some.inj ho
      obtain ⟨_, e76⟩ : ∃ _w : World, a.eval (.tmp 76) = .pointer (some ⟨w.heap.size, 0 + 0, none⟩) := (hrd 2 _ 76 rfl rfl (by kernel_rfl) (by kernel_rfl) (by decide)).1
      exact wpv_of (wp_load_cell 38 _ rfl _ e76 .i64 uPrime _ (by rw [hSx.1.cell]; rfl)) (fun _ _ => rfl)
    · obtain rfl := Option.some.inj ho
      have e14 : a.eval (.tmp 14) = uD10 := hpar 14 _ (by kernel_rfl) (by kernel_rfl)
      have h14 := (fr.out).below (hBl rfl)
      exact wpv_of (wp_move _ _ rfl e14) (fun w' hb => h14.below hb)
    · obtain rfl := Option.some.inj ho
      exact wpv_of (wp_fieldB 46 _ 0 rfl 0 1 fform0 (w.heap.size + 1) 0 (hpar 4 _ (by kernel_rfl) (by kernel_rfl))) (fun _ _ => rfl)
    · obtain rfl := Option.some.inj ho
      obtain ⟨_, e79⟩ : ∃ _w : World, a.eval (.tmp 79) = .pointer (some ⟨w.heap.size + 1, 0 + 0, none⟩) := (hrd 5 _ 79 rfl rfl (by kernel_rfl) (by kernel_rfl) (by decide)).1
      exact wpv_of (wp_load_slice 40 2 _ rfl _ e79 uRowT _ (by rw [hSx.2.1.cell]; rfl)) (fun _ _ => rfl)
    · obtain rfl := Option.some.inj ho
      obtain ⟨_, e77⟩ : ∃ _w : World, a.eval (.tmp 77) = .int .i64 p := (hrd 3 _ 77 rfl rfl (by kernel_rfl) (by kernel_rfl) (by decide)).1
      have h78 : (fun v w => IsRow w v (r)) (a.eval (.tmp 78)) w2 := (hrd 4 _ 78 rfl rfl (by kernel_rfl) (by kernel_rfl) (by decide)).2 rfl
      generalize e78 : a.eval (.tmp 78) = v78 at h78
      obtain ⟨_, e80⟩ : ∃ _w : World, a.eval (.tmp 80) = va1 := (hrd 6 _ 80 rfl rfl (by kernel_rfl) (by kernel_rfl) (by decide)).1
      exact wpv_call 50 [.tmp 77, .tmp 78, .tmp 80] _ rfl [.int .i64 p, v78, va1] (by simp only [List.map_cons, List.map_nil, e77, e78, e80]) Try.call50 (m_ra.out _ _ w2 h78 (fa1.out.below (hBl rfl)))
    · obtain rfl := Option.some.inj ho
      exact wpv_of (wp_fieldB 46 _ 1 rfl 1 1 fform1 (w.heap.size + 1 + 1) 0 (hpar 5 _ (by kernel_rfl) (by kernel_rfl))) (fun _ _ => rfl)
    · obtain rfl := Option.some.inj ho
      obtain ⟨_, e82⟩ : ∃ _w : World, a.eval (.tmp 82) = .pointer (some ⟨w.heap.size + 1 + 1, 0 + 1, none⟩) := (hrd 8 _ 82 rfl rfl (by kernel_rfl) (by kernel_rfl) (by decide)).1
      exact wpv_of (wp_load_slice 40 2 _ rfl _ e82 uRowT _ (by rw [hSx.2.2.1.cell]; rfl)) (fun _ _ => rfl)
    · obtain rfl := Option.some.inj ho
      obtain ⟨_, e75⟩ : ∃ _w : World, a.eval (.tmp 75) = .int .i64 p := (hrd 1 _ 75 rfl rfl (by kernel_rfl) (by kernel_rfl) (by decide)).1
      have h81 : (fun v w => IsRow w v (ra)) (a.eval (.tmp 81)) w2 := (hrd 7 _ 81 rfl rfl (by kernel_rfl) (by kernel_rfl) (by decide)).2 rfl
      generalize e81 : a.eval (.tmp 81) = v81 at h81
      obtain ⟨_, e83⟩ : ∃ _w : World, a.eval (.tmp 83) = vb2 := (hrd 9 _ 83 rfl rfl (by kernel_rfl) (by kernel_rfl) (by decide)).1
      exact wpv_call 50 [.tmp 75, .tmp 81, .tmp 83] _ rfl [.int .i64 p, v81, vb2] (by simp only [List.map_cons, List.map_nil, e75, e81, e83]) Try.call50 (m_t1.out _ _ w2 h81 (fb2.out.below (hBl rfl)))
    · obtain rfl := Option.some.inj ho
      have h84 : (fun v w => IsRow w v (t1)) (a.eval (.tmp 84)) w2 := (hrd 10 _ 84 rfl rfl (by kernel_rfl) (by kernel_rfl) (by decide)).2 rfl
      generalize e84 : a.eval (.tmp 84) = v84 at h84
      exact wpv_of (wp_assign _ _ rfl e84) (fun w' hb => h84.below hb)
    · simp at ho
  intro vals xF hBx hSx hS0 hcs hrs
  obtain ⟨hBl, hc0⟩ := hS0 rfl
  have e0 : vals 0 = .pointer (some ⟨w.heap.size, 0 + 0, none⟩) := hc0 0 (by simp)
  have e1 : vals 1 = .int .i64 p := hc0 1 (by simp)
  have e2 : vals 2 = .pointer (some ⟨w.heap.size, 0 + 0, none⟩) := hc0 2 (by simp)
  have e3 : vals 3 = .int .i64 p := hc0 3 (by simp)
  have cF4 : (fun v w => IsRow w v (r)) (vals 4) xF := hc0 4 (by simp)
  generalize ev4 : vals 4 = uF4 at cF4
  have e5 : vals 5 = .pointer (some ⟨w.heap.size + 1, 0 + 0, none⟩) := hc0 5 (by simp)
  have e6 : vals 6 = va1 := hc0 6 (by simp)
  have cF7 : (fun v w => IsRow w v (ra)) (vals 7) xF := hc0 7 (by simp)
  generalize ev7 : vals 7 = uF7 at cF7
  have e8 : vals 8 = .pointer (some ⟨w.heap.size + 1 + 1, 0 + 1, none⟩) := hc0 8 (by simp)
  have e9 : vals 9 = vb2 := hc0 9 (by simp)
  have cF10 : (fun v w => IsRow w v (t1)) (vals 10) xF := hc0 10 (by simp)
  generalize ev10 : vals 10 = uF10 at cF10
  have cF11 : (fun v w => IsRow w v (t1)) (vals 11) xF := hc0 11 (by simp)
  generalize ev11 : vals 11 = uF11 at cF11
  simp only [List.length_cons, List.length_nil, Nat.zero_add, Nat.reduceAdd, List.replicate, putAll, if_true, Act.put, List.setIfInBounds_toArray, List.set_cons_zero, List.set_cons_succ, e0, e1, e2, e3, ev4, e5, e6, ev7, e8, e9, ev10, ev11]
  replace hZ := hZ.keep hBl
  replace hC := hSx.1
  replace hF := hSx.2.1
  replace hG := hSx.2.2.1
  clear hcs hrs hS0 hSx e0 e1 e2 e3 ev4 e5 e6 ev7 e8 e9 ev10 ev11 hc0
  replace hb := hBx
  clear hBx
  replace fds := Lib.hid (fds.out.below hBl)
  replace fa1 := Lib.hid (fa1.out.below hBl)
  replace fb1 := Lib.hid (fb1.out.below hBl)
  replace fa2 := Lib.hid (fa2.out.below hBl)
  replace fb2 := Lib.hid (fb2.out.below hBl)
  replace fd := Lib.hid (fd.out.below hBl)
  replace ft := Lib.hid (ft.out.below hBl)
  replace fr := Lib.hid (fr.out.below hBl)
  replace fs := Lib.hid (fs.out.below hBl)
  replace fA := Lib.hid (fA.out.below hBl)
  have ft1 := Lib.hid (show IsRow xF uF11 t1 from cF11)
  clear hBl cF10 cF11 cF4 cF7
  go_upto_region 7 with (fail)
  refine gen_region2 (ws := w) (w := _) (B := w.heap.size) (by kernel_rfl) (by kernel_rfl) (by kernel_rfl) (by kernel_rfl)
      (fun i => ([fun zv _ => zv = .pointer (some ⟨w.heap.size, 0 + 0, none⟩), fun zv _ => zv = .int .i64 p, fun v w => IsRow w v (t1), fun zv _ => zv = .pointer (some ⟨w.heap.size, 0 + 0, none⟩), fun zv _ => zv = .int .i64 p, fun zv _ => zv = .pointer (some ⟨w.heap.size, 0 + 0, none⟩), fun zv _ => zv = .int .i64 p, fun v w => IsRow w v (s), fun zv _ => zv = .pointer (some ⟨w.heap.size + 1 + 1, 0 + 0, none⟩), fun zv _ => zv = va2, fun v w => IsRow w v (sa), fun zv _ => zv = .pointer (some ⟨w.heap.size + 1, 0 + 1, none⟩), fun zv _ => zv = vb1, fun v w => IsRow w v (t2), fun v w => IsRow w v (top), fun v w => IsRow w v (top)] : List (Value → World → Prop)).getD i (fun _ _ => True))
      (fun i => ([false, false, false, false, false, false, false, false, false, false, false, false, false, false, false, false] : List Bool).getD i true)
      0 (fun zk => [].getD zk 0) (fun zk => [].getD zk 0) (fun zk => [].getD zk 0) (fun zk => [].getD zk 0) (fun zk => [].getD zk 0) (fun zk => [].getD zk 0) (fun zk => [].getD zk (fun _ => 0)) (fun zk => [].getD zk (fun _ => 0)) (fun zk => [].getD zk 0) hb (Nat.le_refl _)
      (fun w' => Blk w' (w.heap.size) (#[.int .i64 p, vd]) 42 ∧ Blk w' (w.heap.size + 1) (#[va1, vb1]) 46 ∧ Blk w' (w.heap.size + 1 + 1) (#[va2, vb2]) 46 ∧ True) ⟨hC.drew, hF.drew, hG.drew, trivial⟩ (fun w1 w2 h hb => ⟨h.1.keep hb, h.2.1.keep hb, h.2.2.1.keep hb, trivial⟩) ?_ ?_ ?_ ?_ ?_ ?_ ?_
  · exact fun k hk => absurd hk (by omega)
  · intro i v w1 w2 h hb
    rcases i with _|_|_|_|_|_|_|_|_|_|_|_|_|_|_|_|i
    · exact h
    · exact h
    · exact (show IsRow w1 v (t1) from h).below hb
    · exact h
    · exact h
    · exact h
    · exact h
    · exact (show IsRow w1 v (s) from h).below hb
    · exact h
    · exact h
    · exact (show IsRow w1 v (sa) from h).below hb
    · exact h
    · exact h
    · exact (show IsRow w1 v (t2) from h).below hb
    · exact (show IsRow w1 v (top) from h).below hb
    · exact (show IsRow w1 v (top) from h).below hb
    · exact h
  · exact fun k hk => absurd hk (by omega)
  · exact fun k hk => absurd hk (by omega)
  · kernel_rfl
  · intro i o ho hz a w2 hBs hSx hBl hrd hpar hpar2
    rcases i with _|_|_|_|_|_|_|_|_|_|_|_|_|_|_|_|i
    · obtain rfl := Option.some.inj ho
      exact wpv_of (wp_fieldB 42 _ 0 rfl 0 1 fcurve0 (w.heap.size) 0 (hpar 3 _ (by kernel_rfl) (by kernel_rfl))) (fun _ _ => rfl)
    · obtain rfl := Option.some.inj ho
      obtain ⟨_, e85⟩ : ∃ _w : World, a.eval (.tmp 85) = .pointer (some ⟨w.heap.size, 0 + 0, none⟩) := (hrd 0 _ 85 rfl rfl (by kernel_rfl) (by kernel_rfl) (by decide)).1
      exact wpv_of (wp_load_cell 38 _ rfl _ e85 .i64 uPrime _ (by rw [hSx.1.cell]; rfl)) (fun _ _ => rfl)
    · obtain rfl := Option.some.inj ho
      have e18 : a.eval (.tmp 18) = uF11 := hpar2 15 _ 18 _ rfl rfl (by kernel_rfl) (by kernel_rfl)
      have h18 := (ft1.out).below (hBl rfl)
      exact wpv_of (wp_move _ _ rfl e18) (fun w' hb => h18.below hb)
    · obtain rfl := Option.some.inj ho
      exact wpv_of (wp_fieldB 42 _ 0 rfl 0 1 fcurve0 (w.heap.size) 0 (hpar 3 _ (by kernel_rfl) (by kernel_rfl))) (fun _ _ => rfl)
    · obtain rfl := Option.some.inj ho
      obtain ⟨_, e88⟩ : ∃ _w : World, a.eval (.tmp 88) = .pointer (some ⟨w.heap.size, 0 + 0, none⟩) := (hrd 3 _ 88 rfl rfl (by kernel_rfl) (by kernel_rfl) (by decide)).1
      exact wpv_of (wp_load_cell 38 _ rfl _ e88 .i64 uPrime _ (by rw [hSx.1.cell]; rfl)) (fun _ _ => rfl)
    · obtain rfl := Option.some.inj ho
      exact wpv_of (wp_fieldB 42 _ 0 rfl 0 1 fcurve0 (w.heap.size) 0 (hpar 3 _ (by kernel_rfl) (by kernel_rfl))) (fun _ _ => rfl)
    · obtain rfl := Option.some.inj ho
      obtain ⟨_, e90⟩ : ∃ _w : World, a.eval (.tmp 90) = .pointer (some ⟨w.heap.size, 0 + 0, none⟩) := (hrd 5 _ 90 rfl rfl (by kernel_rfl) (by kernel_rfl) (by decide)).1
      exact wpv_of (wp_load_cell 38 _ rfl _ e90 .i64 uPrime _ (by rw [hSx.1.cell]; rfl)) (fun _ _ => rfl)
    · obtain rfl := Option.some.inj ho
      have e15 : a.eval (.tmp 15) = uD11 := hpar 15 _ (by kernel_rfl) (by kernel_rfl)
      have h15 := (fs.out).below (hBl rfl)
      exact wpv_of (wp_move _ _ rfl e15) (fun w' hb => h15.below hb)
    · obtain rfl := Option.some.inj ho
      exact wpv_of (wp_fieldB 46 _ 0 rfl 0 1 fform0 (w.heap.size + 1 + 1) 0 (hpar 5 _ (by kernel_rfl) (by kernel_rfl))) (fun _ _ => rfl)
    · obtain rfl := Option.some.inj ho
      obtain ⟨_, e93⟩ : ∃ _w : World, a.eval (.tmp 93) = .pointer (some ⟨w.heap.size + 1 + 1, 0 + 0, none⟩) := (hrd 8 _ 93 rfl rfl (by kernel_rfl) (by kernel_rfl) (by decide)).1
      exact wpv_of (wp_load_slice 40 2 _ rfl _ e93 uRowT _ (by rw [hSx.2.2.1.cell]; rfl)) (fun _ _ => rfl)
    · obtain rfl := Option.some.inj ho
      obtain ⟨_, e91⟩ : ∃ _w : World, a.eval (.tmp 91) = .int .i64 p := (hrd 6 _ 91 rfl rfl (by kernel_rfl) (by kernel_rfl) (by decide)).1
      have h92 : (fun v w => IsRow w v (s)) (a.eval (.tmp 92)) w2 := (hrd 7 _ 92 rfl rfl (by kernel_rfl) (by kernel_rfl) (by decide)).2 rfl
      generalize e92 : a.eval (.tmp 92) = v92 at h92
      obtain ⟨_, e94⟩ : ∃ _w : World, a.eval (.tmp 94) = va2 := (hrd 9 _ 94 rfl rfl (by kernel_rfl) (by kernel_rfl) (by decide)).1
      exact wpv_call 50 [.tmp 91, .tmp 92, .tmp 94] _ rfl [.int .i64 p, v92, va2] (by simp only [List.map_cons, List.map_nil, e91, e92, e94]) Try.call50 (m_sa.out _ _ w2 h92 (fa2.out.below (hBl rfl)))
    · obtain rfl := Option.some.inj ho
      exact wpv_of (wp_fieldB 46 _ 1 rfl 1 1 fform1 (w.heap.size + 1) 0 (hpar 4 _ (by kernel_rfl) (by kernel_rfl))) (fun _ _ => rfl)
    · obtain rfl := Option.some.inj ho
      obtain ⟨_, e96⟩ : ∃ _w : World, a.eval (.tmp 96) = .pointer (some ⟨w.heap.size + 1, 0 + 1, none⟩) := (hrd 11 _ 96 rfl rfl (by kernel_rfl) (by kernel_rfl) (by decide)).1
      exact wpv_of (wp_load_slice 40 2 _ rfl _ e96 uRowT _ (by rw [hSx.2.1.cell]; rfl)) (fun _ _ => rfl)
    · obtain rfl := Option.some.inj ho
      obtain ⟨_, e89⟩ : ∃ _w : World, a.eval (.tmp 89) = .int .i64 p := (hrd 4 _ 89 rfl rfl (by kernel_rfl) (by kernel_rfl) (by decide)).1
      have h95 : (fun v w => IsRow w v (sa)) (a.eval (.tmp 95)) w2 := (hrd 10 _ 95 rfl rfl (by kernel_rfl) (by kernel_rfl) (by decide)).2 rfl
      generalize e95 : a.eval (.tmp 95) = v95 at h95
      obtain ⟨_, e97⟩ : ∃ _w : World, a.eval (.tmp 97) = vb1 := (hrd 12 _ 97 rfl rfl (by kernel_rfl) (by kernel_rfl) (by decide)).1
      exact wpv_call 50 [.tmp 89, .tmp 95, .tmp 97] _ rfl [.int .i64 p, v95, vb1] (by simp only [List.map_cons, List.map_nil, e89, e95, e97]) Try.call50 (m_t2.out _ _ w2 h95 (fb1.out.below (hBl rfl)))
    · obtain rfl := Option.some.inj ho
      obtain ⟨_, e86⟩ : ∃ _w : World, a.eval (.tmp 86) = .int .i64 p := (hrd 1 _ 86 rfl rfl (by kernel_rfl) (by kernel_rfl) (by decide)).1
      have h87 : (fun v w => IsRow w v (t1)) (a.eval (.tmp 87)) w2 := (hrd 2 _ 87 rfl rfl (by kernel_rfl) (by kernel_rfl) (by decide)).2 rfl
      generalize e87 : a.eval (.tmp 87) = v87 at h87
      have h98 : (fun v w => IsRow w v (t2)) (a.eval (.tmp 98)) w2 := (hrd 13 _ 98 rfl rfl (by kernel_rfl) (by kernel_rfl) (by decide)).2 rfl
      generalize e98 : a.eval (.tmp 98) = v98 at h98
      exact wpv_call 69 [.tmp 86, .tmp 87, .tmp 98, .const (.int .i64 1)] _ rfl [.int .i64 p, v87, v98, .int .i64 1] (by simp only [List.map_cons, List.map_nil, e86, e87, e98, eval_const]) Try.call69 (m_top.out _ _ w2 h87 h98)
    · obtain rfl := Option.some.inj ho
      have h99 : (fun v w => IsRow w v (top)) (a.eval (.tmp 99)) w2 := (hrd 14 _ 99 rfl rfl (by kernel_rfl) (by kernel_rfl) (by decide)).2 rfl
      generalize e99 : a.eval (.tmp 99) = v99 at h99
      exact wpv_of (wp_assign _ _ rfl e99) (fun w' hb => h99.below hb)
    · simp at ho
  intro vals xH hBx hSx hS0 hcs hrs
  obtain ⟨hBl, hc0⟩ := hS0 rfl
  have e0 : vals 0 = .pointer (some ⟨w.heap.size, 0 + 0, none⟩) := hc0 0 (by simp)
  have e1 : vals 1 = .int .i64 p := hc0 1 (by simp)
  have cH2 : (fun v w => IsRow w v (t1)) (vals 2) xH := hc0 2 (by simp)
  generalize ev2 : vals 2 = uH2 at cH2
  have e3 : vals 3 = .pointer (some ⟨w.heap.size, 0 + 0, none⟩) := hc0 3 (by simp)
  have e4 : vals 4 = .int .i64 p := hc0 4 (by simp)
  have e5 : vals 5 = .pointer (some ⟨w.heap.size, 0 + 0, none⟩) := hc0 5 (by simp)
  have e6 : vals 6 = .int .i64 p := hc0 6 (by simp)
  have cH7 : (fun v w => IsRow w v (s)) (vals 7) xH := hc0 7 (by simp)
  generalize ev7 : vals 7 = uH7 at cH7
  have e8 : vals 8 = .pointer (some ⟨w.heap.size + 1 + 1, 0 + 0, none⟩) := hc0 8 (by simp)
  have e9 : vals 9 = va2 := hc0 9 (by simp)
  have cH10 : (fun v w => IsRow w v (sa)) (vals 10) xH := hc0 10 (by simp)
  generalize ev10 : vals 10 = uH10 at cH10
  have e11 : vals 11 = .pointer (some ⟨w.heap.size + 1, 0 + 1, none⟩) := hc0 11 (by simp)
  have e12 : vals 12 = vb1 := hc0 12 (by simp)
  have cH13 : (fun v w => IsRow w v (t2)) (vals 13) xH := hc0 13 (by simp)
  generalize ev13 : vals 13 = uH13 at cH13
  have cH14 : (fun v w => IsRow w v (top)) (vals 14) xH := hc0 14 (by simp)
  generalize ev14 : vals 14 = uH14 at cH14
  have cH15 : (fun v w => IsRow w v (top)) (vals 15) xH := hc0 15 (by simp)
  generalize ev15 : vals 15 = uH15 at cH15
  simp only [List.length_cons, List.length_nil, Nat.zero_add, Nat.reduceAdd, List.replicate, putAll, if_true, Act.put, List.setIfInBounds_toArray, List.set_cons_zero, List.set_cons_succ, e0, e1, ev2, e3, e4, e5, e6, ev7, e8, e9, ev10, e11, e12, ev13, ev14, ev15]
  replace hZ := hZ.keep hBl
  replace hC := hSx.1
  replace hF := hSx.2.1
  replace hG := hSx.2.2.1
  clear hcs hrs hS0 hSx e0 e1 ev2 e3 e4 e5 e6 ev7 e8 e9 ev10 e11 e12 ev13 ev14 ev15 hc0
  replace hb := hBx
  clear hBx
  replace fds := Lib.hid (fds.out.below hBl)
  replace fa1 := Lib.hid (fa1.out.below hBl)
  replace fb1 := Lib.hid (fb1.out.below hBl)
  replace fa2 := Lib.hid (fa2.out.below hBl)
  replace fb2 := Lib.hid (fb2.out.below hBl)
  replace fd := Lib.hid (fd.out.below hBl)
  replace ft := Lib.hid (ft.out.below hBl)
  replace fr := Lib.hid (fr.out.below hBl)
  replace fs := Lib.hid (fs.out.below hBl)
  replace fA := Lib.hid (fA.out.below hBl)
  replace ft1 := Lib.hid (ft1.out.below hBl)
  have ftop := Lib.hid (show IsRow xH uH15 top from cH15)
  clear hBl cH10 cH13 cH14 cH15 cH2 cH7
  go_upto_region 8 with (fail)
  refine gen_region2 (ws := w) (w := _) (B := w.heap.size) (by kernel_rfl) (by kernel_rfl) (by kernel_rfl) (by kernel_rfl)
      (fun i => ([fun zv _ => zv = .pointer (some ⟨w.heap.size, 0 + 0, none⟩), fun zv _ => zv = .int .i64 p, fun v w => IsRow w v (top), fun zv _ => zv = .pointer (some ⟨w.heap.size, 0 + 0, none⟩), fun zv _ => zv = .int .i64 p, fun v w => IsRow w v (t), fun zv _ => zv = .pointer (some ⟨w.heap.size, 0 + 0, none⟩), fun zv _ => zv = .int .i64 p, fun zv _ => zv = .pointer (some ⟨w.heap.size, 0 + 0, none⟩), fun zv _ => zv = .int .i64 p, fun zv _ => zv = .pointer (some ⟨w.heap.size + 1, 0 + 1, none⟩), fun zv _ => zv = vb1, fun zv _ => zv = .pointer (some ⟨w.heap.size + 1 + 1, 0 + 1, none⟩), fun zv _ => zv = vb2, fun v w => IsRow w v (bo), fun zv _ => zv = .pointer (some ⟨w.heap.size, 0 + 1, none⟩), fun zv _ => zv = vd, fun v w => IsRow w v (bd), fun v w => IsRow w v (la), fun v w => IsRow w v (N), fun v w => IsRow w v (N)] : List (Value → World → Prop)).getD i (fun _ _ => True))
      (fun i => ([false, false, false, false, false, false, false, false, false, false, false, false, false, false, false, false, false, false, false, false, false] : List Bool).getD i true)
      0 (fun zk => [].getD zk 0) (fun zk => [].getD zk 0) (fun zk => [].getD zk 0) (fun zk => [].getD zk 0) (fun zk => [].getD zk 0) (fun zk => [].getD zk 0) (fun zk => [].getD zk (fun _ => 0)) (fun zk => [].getD zk (fun _ => 0)) (fun zk => [].getD zk 0) hb (Nat.le_refl _)
      (fun w' => Blk w' (w.heap.size) (#[.int .i64 p, vd]) 42 ∧ Blk w' (w.heap.size + 1) (#[va1, vb1]) 46 ∧ Blk w' (w.heap.size + 1 + 1) (#[va2, vb2]) 46 ∧ True) ⟨hC.drew, hF.drew, hG.drew, trivial⟩ (fun w1 w2 h hb => ⟨h.1.keep hb, h.2.1.keep hb, h.2.2.1.keep hb, trivial⟩) ?_ ?_ ?_ ?_ ?_ ?_ ?_
  · exact fun k hk => absurd hk (by omega)
  · intro i v w1 w2 h hb
    rcases i with _|_|_|_|_|_|_|_|_|_|_|_|_|_|_|_|_|_|_|_|_|i
    · exact h
    · exact h
    · exact (show IsRow w1 v (top) from h).below hb
    · exact h
    · exact h
    · exact (show IsRow w1 v (t) from h).below hb
    · exact h
    · exact h
    · exact h
    · exact h
    · exact h
    · exact h
    · exact h
    · exact h
    · exact (show IsRow w1 v (bo) from h).below hb
    · exact h
    · exact h
    · exact (show IsRow w1 v (bd) from h).below hb
    · exact (show IsRow w1 v (la) from h).below hb
    · exact (show IsRow w1 v (N) from h).below hb
    · exact (show IsRow w1 v (N) from h).below hb
    · exact h
  · exact fun k hk => absurd hk (by omega)
  · exact fun k hk => absurd hk (by omega)
  · kernel_rfl
  · intro i o ho hz a w2 hBs hSx hBl hrd hpar hpar2
    rcases i with _|_|_|_|_|_|_|_|_|_|_|_|_|_|_|_|_|_|_|_|_|i
    · obtain rfl := Option.some.inj ho
      exact wpv_of (wp_fieldB 42 _ 0 rfl 0 1 fcurve0 (w.heap.size) 0 (hpar 3 _ (by kernel_rfl) (by kernel_rfl))) (fun _ _ => rfl)
    · obtain rfl := Option.some.inj ho
      obtain ⟨_, e100⟩ : ∃ _w : World, a.eval (.tmp 100) = .pointer (some ⟨w.heap.size, 0 + 0, none⟩) := (hrd 0 _ 100 rfl rfl (by kernel_rfl) (by kernel_rfl) (by decide)).1
      exact wpv_of (wp_load_cell 38 _ rfl _ e100 .i64 uPrime _ (by rw [hSx.1.cell]; rfl)) (fun _ _ => rfl)
    · obtain rfl := Option.some.inj ho
      have e18 : a.eval (.tmp 18) = uH15 := hpar2 20 _ 18 _ rfl rfl (by kernel_rfl) (by kernel_rfl)
      have h18 := (ftop.out).below (hBl rfl)
      exact wpv_of (wp_move _ _ rfl e18) (fun w' hb => h18.below hb)
    · obtain rfl := Option.some.inj ho
      exact wpv_of (wp_fieldB 42 _ 0 rfl 0 1 fcurve0 (w.heap.size) 0 (hpar 3 _ (by kernel_rfl) (by kernel_rfl))) (fun _ _ => rfl)
    · obtain rfl := Option.some.inj ho
      obtain ⟨_, e103⟩ : ∃ _w : World, a.eval (.tmp 103) = .pointer (some ⟨w.heap.size, 0 + 0, none⟩) := (hrd 3 _ 103 rfl rfl (by kernel_rfl) (by kernel_rfl) (by decide)).1
      exact wpv_of (wp_load_cell 38 _ rfl _ e103 .i64 uPrime _ (by rw [hSx.1.cell]; rfl)) (fun _ _ => rfl)
    · obtain rfl := Option.some.inj ho
      have e13 : a.eval (.tmp 13) = Vt := hpar 13 _ (by kernel_rfl) (by kernel_rfl)
      have h13 := (ft.out).below (hBl rfl)
      exact wpv_of (wp_move _ _ rfl e13) (fun w' hb => h13.below hb)
    · obtain rfl := Option.some.inj ho
      exact wpv_of (wp_fieldB 42 _ 0 rfl 0 1 fcurve0 (w.heap.size) 0 (hpar 3 _ (by kernel_rfl) (by kernel_rfl))) (fun _ _ => rfl)
    · obtain rfl := Option.some.inj ho
      obtain ⟨_, e106⟩ : ∃ _w : World, a.eval (.tmp 106) = .pointer (some ⟨w.heap.size, 0 + 0, none⟩) := (hrd 6 _ 106 rfl rfl (by kernel_rfl) (by kernel_rfl) (by decide)).1
      exact wpv_of (wp_load_cell 38 _ rfl _ e106 .i64 uPrime _ (by rw [hSx.1.cell]; rfl)) (fun _ _ => rfl)
    · obtain rfl := Option.some.inj ho
      exact wpv_of (wp_fieldB 42 _ 0 rfl 0 1 fcurve0 (w.heap.size) 0 (hpar 3 _ (by kernel_rfl) (by kernel_rfl))) (fun _ _ => rfl)
    · obtain rfl := Option.some.inj ho
      obtain ⟨_, e108⟩ : ∃ _w : World, a.eval (.tmp 108) = .pointer (some ⟨w.heap.size, 0 + 0, none⟩) := (hrd 8 _ 108 rfl rfl (by kernel_rfl) (by kernel_rfl) (by decide)).1
      exact wpv_of (wp_load_cell 38 _ rfl _ e108 .i64 uPrime _ (by rw [hSx.1.cell]; rfl)) (fun _ _ => rfl)
    · obtain rfl := Option.some.inj ho
      exact wpv_of (wp_fieldB 46 _ 1 rfl 1 1 fform1 (w.heap.size + 1) 0 (hpar 4 _ (by kernel_rfl) (by kernel_rfl))) (fun _ _ => rfl)
    · obtain rfl := Option.some.inj ho
      obtain ⟨_, e110⟩ : ∃ _w : World, a.eval (.tmp 110) = .pointer (some ⟨w.heap.size + 1, 0 + 1, none⟩) := (hrd 10 _ 110 rfl rfl (by kernel_rfl) (by kernel_rfl) (by decide)).1
      exact wpv_of (wp_load_slice 40 2 _ rfl _ e110 uRowT _ (by rw [hSx.2.1.cell]; rfl)) (fun _ _ => rfl)
    · obtain rfl := Option.some.inj ho
      exact wpv_of (wp_fieldB 46 _ 1 rfl 1 1 fform1 (w.heap.size + 1 + 1) 0 (hpar 5 _ (by kernel_rfl) (by kernel_rfl))) (fun _ _ => rfl)
    · obtain rfl := Option.some.inj ho
      obtain ⟨_, e112⟩ : ∃ _w : World, a.eval (.tmp 112) = .pointer (some ⟨w.heap.size + 1 + 1, 0 + 1, none⟩) := (hrd 12 _ 112 rfl rfl (by kernel_rfl) (by kernel_rfl) (by decide)).1
      exact wpv_of (wp_load_slice 40 2 _ rfl _ e112 uRowT _ (by rw [hSx.2.2.1.cell]; rfl)) (fun _ _ => rfl)
    · obtain rfl := Option.some.inj ho
      obtain ⟨_, e109⟩ : ∃ _w : World, a.eval (.tmp 109) = .int .i64 p := (hrd 9 _ 109 rfl rfl (by kernel_rfl) (by kernel_rfl) (by decide)).1
      obtain ⟨_, e111⟩ : ∃ _w : World, a.eval (.tmp 111) = vb1 := (hrd 11 _ 111 rfl rfl (by kernel_rfl) (by kernel_rfl) (by decide)).1
      obtain ⟨_, e113⟩ : ∃ _w : World, a.eval (.tmp 113) = vb2 := (hrd 13 _ 113 rfl rfl (by kernel_rfl) (by kernel_rfl) (by decide)).1
      exact wpv_call 50 [.tmp 109, .tmp 111, .tmp 113] _ rfl [.int .i64 p, vb1, vb2] (by simp only [List.map_cons, List.map_nil, e109, e111, e113]) Try.call50 (m_bo.out _ _ w2 (fb1.out.below (hBl rfl)) (fb2.out.below (hBl rfl)))
    · obtain rfl := Option.some.inj ho
      exact wpv_of (wp_fieldB 42 _ 1 rfl 1 1 fcurve1 (w.heap.size) 0 (hpar 3 _ (by kernel_rfl) (by kernel_rfl))) (fun _ _ => rfl)
    · obtain rfl := Option.some.inj ho
      obtain ⟨_, e115⟩ : ∃ _w : World, a.eval (.tmp 115) = .pointer (some ⟨w.heap.size, 0 + 1, none⟩) := (hrd 15 _ 115 rfl rfl (by kernel_rfl) (by kernel_rfl) (by decide)).1
      exact wpv_of (wp_load_slice 40 2 _ rfl _ e115 uRowT _ (by rw [hSx.1.cell]; rfl)) (fun _ _ => rfl)
    · obtain rfl := Option.some.inj ho
      obtain ⟨_, e107⟩ : ∃ _w : World, a.eval (.tmp 107) = .int .i64 p := (hrd 7 _ 107 rfl rfl (by kernel_rfl) (by kernel_rfl) (by decide)).1
      have h114 : (fun v w => IsRow w v (bo)) (a.eval (.tmp 114)) w2 := (hrd 14 _ 114 rfl rfl (by kernel_rfl) (by kernel_rfl) (by decide)).2 rfl
      generalize e114 : a.eval (.tmp 114) = v114 at h114
      obtain ⟨_, e116⟩ : ∃ _w : World, a.eval (.tmp 116) = vd := (hrd 16 _ 116 rfl rfl (by kernel_rfl) (by kernel_rfl) (by decide)).1
      exact wpv_call 69 [.tmp 107, .tmp 114, .tmp 116, .const (.int .i64 1)] _ rfl [.int .i64 p, v114, vd, .int .i64 1] (by simp only [List.map_cons, List.map_nil, e107, e114, e116, eval_const]) Try.call69 (m_bd.out _ _ w2 h114 (fds.out.below (hBl rfl)))
    · obtain rfl := Option.some.inj ho
      obtain ⟨_, e104⟩ : ∃ _w : World, a.eval (.tmp 104) = .int .i64 p := (hrd 4 _ 104 rfl rfl (by kernel_rfl) (by kernel_rfl) (by decide)).1
      have h105 : (fun v w => IsRow w v (t)) (a.eval (.tmp 105)) w2 := (hrd 5 _ 105 rfl rfl (by kernel_rfl) (by kernel_rfl) (by decide)).2 rfl
      generalize e105 : a.eval (.tmp 105) = v105 at h105
      have h117 : (fun v w => IsRow w v (bd)) (a.eval (.tmp 117)) w2 := (hrd 17 _ 117 rfl rfl (by kernel_rfl) (by kernel_rfl) (by decide)).2 rfl
      generalize e117 : a.eval (.tmp 117) = v117 at h117
      exact wpv_call 50 [.tmp 104, .tmp 105, .tmp 117] _ rfl [.int .i64 p, v105, v117] (by simp only [List.map_cons, List.map_nil, e104, e105, e117]) Try.call50 (m_la.out _ _ w2 h105 h117)
    · obtain rfl := Option.some.inj ho
      obtain ⟨_, e101⟩ : ∃ _w : World, a.eval (.tmp 101) = .int .i64 p := (hrd 1 _ 101 rfl rfl (by kernel_rfl) (by kernel_rfl) (by decide)).1
      have h102 : (fun v w => IsRow w v (top)) (a.eval (.tmp 102)) w2 := (hrd 2 _ 102 rfl rfl (by kernel_rfl) (by kernel_rfl) (by decide)).2 rfl
      generalize e102 : a.eval (.tmp 102) = v102 at h102
      have h118 : (fun v w => IsRow w v (la)) (a.eval (.tmp 118)) w2 := (hrd 18 _ 118 rfl rfl (by kernel_rfl) (by kernel_rfl) (by decide)).2 rfl
      generalize e118 : a.eval (.tmp 118) = v118 at h118
      exact wpv_call 69 [.tmp 101, .tmp 102, .tmp 118, .const (.int .i64 1)] _ rfl [.int .i64 p, v102, v118, .int .i64 1] (by simp only [List.map_cons, List.map_nil, e101, e102, e118, eval_const]) Try.call69 (m_N.out _ _ w2 h102 h118)
    · obtain rfl := Option.some.inj ho
      have h119 : (fun v w => IsRow w v (N)) (a.eval (.tmp 119)) w2 := (hrd 19 _ 119 rfl rfl (by kernel_rfl) (by kernel_rfl) (by decide)).2 rfl
      generalize e119 : a.eval (.tmp 119) = v119 at h119
      exact wpv_of (wp_assign _ _ rfl e119) (fun w' hb => h119.below hb)
    · simp at ho
  intro vals xJ hBx hSx hS0 hcs hrs
  obtain ⟨hBl, hc0⟩ := hS0 rfl
  have e0 : vals 0 = .pointer (some ⟨w.heap.size, 0 + 0, none⟩) := hc0 0 (by simp)
  have e1 : vals 1 = .int .i64 p := hc0 1 (by simp)
  have cJ2 : (fun v w => IsRow w v (top)) (vals 2) xJ := hc0 2 (by simp)
  generalize ev2 : vals 2 = uJ2 at cJ2
  have e3 : vals 3 = .pointer (some ⟨w.heap.size, 0 + 0, none⟩) := hc0 3 (by simp)
  have e4 : vals 4 = .int .i64 p := hc0 4 (by simp)
  have cJ5 : (fun v w => IsRow w v (t)) (vals 5) xJ := hc0 5 (by simp)
  generalize ev5 : vals 5 = uJ5 at cJ5
  have e6 : vals 6 = .pointer (some ⟨w.heap.size, 0 + 0, none⟩) := hc0 6 (by simp)
  have e7 : vals 7 = .int .i64 p := hc0 7 (by simp)
  have e8 : vals 8 = .pointer (some ⟨w.heap.size, 0 + 0, none⟩) := hc0 8 (by simp)
  have e9 : vals 9 = .int .i64 p := hc0 9 (by simp)
  have e10 : vals 10 = .pointer (some ⟨w.heap.size + 1, 0 + 1, none⟩) := hc0 10 (by simp)
  have e11 : vals 11 = vb1 := hc0 11 (by simp)
  have e12 : vals 12 = .pointer (some ⟨w.heap.size + 1 + 1, 0 + 1, none⟩) := hc0 12 (by simp)
  have e13 : vals 13 = vb2 := hc0 13 (by simp)
  have cJ14 : (fun v w => IsRow w v (bo)) (vals 14) xJ := hc0 14 (by simp)
  generalize ev14 : vals 14 = uJ14 at cJ14
  have e15 : vals 15 = .pointer (some ⟨w.heap.size, 0 + 1, none⟩) := hc0 15 (by simp)
  have e16 : vals 16 = vd := hc0 16 (by simp)
  have cJ17 : (fun v w => IsRow w v (bd)) (vals 17) xJ := hc0 17 (by simp)
  generalize ev17 : vals 17 = uJ17 at cJ17
  have cJ18 : (fun v w => IsRow w v (la)) (vals 18) xJ := hc0 18 (by simp)
  generalize ev18 : vals 18 = uJ18 at cJ18
  have cJ19 : (fun v w => IsRow w v (N)) (vals 19) xJ := hc0 19 (by simp)
  generalize ev19 : vals 19 = uJ19 at cJ19
  have cJ20 : (fun v w => IsRow w v (N)) (vals 20) xJ := hc0 20 (by simp)
  generalize ev20 : vals 20 = uJ20 at cJ20
  simp only [List.length_cons, List.length_nil, Nat.zero_add, Nat.reduceAdd, List.replicate, putAll, if_true, Act.put, List.setIfInBounds_toArray, List.set_cons_zero, List.set_cons_succ, e0, e1, ev2, e3, e4, ev5, e6, e7, e8, e9, e10, e11, e12, e13, ev14, e15, e16, ev17, ev18, ev19, ev20]
  replace hZ := hZ.keep hBl
  replace hC := hSx.1
  replace hF := hSx.2.1
  replace hG := hSx.2.2.1
  clear hcs hrs hS0 hSx e0 e1 ev2 e3 e4 ev5 e6 e7 e8 e9 e10 e11 e12 e13 ev14 e15 e16 ev17 ev18 ev19 ev20 hc0
  replace hb := hBx
  clear hBx
  replace fds := Lib.hid (fds.out.below hBl)
  replace fa1 := Lib.hid (fa1.out.below hBl)
  replace fb1 := Lib.hid (fb1.out.below hBl)
  replace fa2 := Lib.hid (fa2.out.below hBl)
  replace fb2 := Lib.hid (fb2.out.below hBl)
  replace fd := Lib.hid (fd.out.below hBl)
  replace ft := Lib.hid (ft.out.below hBl)
  replace fr := Lib.hid (fr.out.below hBl)
  replace fs := Lib.hid (fs.out.below hBl)
  replace fA := Lib.hid (fA.out.below hBl)
  replace ft1 := Lib.hid (ft1.out.below hBl)
  replace ftop := Lib.hid (ftop.out.below hBl)
  have fN := Lib.hid (show IsRow xJ uJ20 N from cJ20)
  clear hBl cJ14 cJ17 cJ18 cJ19 cJ2 cJ20 cJ5
  go_upto_region 9 with (fail)
  have q30 := hC.two0
  have q31 := hC.two1
  have q40 := hF.two0
  have q41 := hF.two1
  have q50 := hG.two0
  have q51 := hG.two1
  go_wp2_with fail
  refine (m_B.out _ _ _ fN.out fd.out).mono ?_
  rintro e u4 ⟨VBQ, VBR, rfl, kBQ, _, hn⟩
  have fBQ := Lib.hid (show IsRow u4 VBQ BQ from kBQ)
  clear kBQ
  clear q30 q31 q40 q41 q50 q51
  replace hC := hC.keep hn
  replace hF := hF.keep hn
  replace hG := hG.keep hn
  replace hZ := hZ.keep hn
  replace fds := Lib.hid (fds.out.below hn)
  replace fa1 := Lib.hid (fa1.out.below hn)
  replace fb1 := Lib.hid (fb1.out.below hn)
  replace fa2 := Lib.hid (fa2.out.below hn)
  replace fb2 := Lib.hid (fb2.out.below hn)
  replace fd := Lib.hid (fd.out.below hn)
  replace ft := Lib.hid (ft.out.below hn)
  replace fr := Lib.hid (fr.out.below hn)
  replace fs := Lib.hid (fs.out.below hn)
  replace fA := Lib.hid (fA.out.below hn)
  replace ft1 := Lib.hid (ft1.out.below hn)
  replace ftop := Lib.hid (ftop.out.below hn)
  replace fN := Lib.hid (fN.out.below hn)
  replace hb := below_step hb hn
  clear hn
  go_upto_region 10 with (fail)
  refine gen_last (w := _) (by kernel_rfl) (by kernel_rfl) (by kernel_rfl) 9 (by kernel_rfl)
      (fun i => ([fun zv _ => zv = .agg #[.int .i64 p, vd], fun v w => IsRow w v (A), fun zv _ => zv = .pointer (some ⟨w.heap.size, 0 + 0, none⟩), fun zv _ => zv = .int .i64 p, fun v w => IsRow w v (BQ), fun v w => IsRow w v (A), fun v w => IsRow w v (RB), fun v w => ∃ va vb, v = .agg #[va, vb] ∧ IsRow w va (A) ∧ IsRow w vb (RB), fun v w => ∃ va vb, v = .agg #[va, vb] ∧ IsRow w va (R1) ∧ IsRow w vb (R2), fun _ _ => True] : List (Value → World → Prop)).getD i (fun _ _ => True))
      (fun w' => Blk w' (w.heap.size) (#[.int .i64 p, vd]) 42 ∧ Blk w' (w.heap.size + 1) (#[va1, vb1]) 46 ∧ Blk w' (w.heap.size + 1 + 1) (#[va2, vb2]) 46 ∧ True) ⟨hC.drew, hF.drew, hG.drew, trivial⟩ (fun w1 w2 h hb => ⟨h.1.keep hb, h.2.1.keep hb, h.2.2.1.keep hb, trivial⟩) ?_ ?_ ?_
  · intro i v w1 w2 h hb
    rcases i with _|_|_|_|_|_|_|_|_|_|i
    · exact h
    · exact (show IsRow w1 v (A) from h).below hb
    · exact h
    · exact h
    · exact (show IsRow w1 v (BQ) from h).below hb
    · exact (show IsRow w1 v (A) from h).below hb
    · exact (show IsRow w1 v (RB) from h).below hb
    · obtain ⟨va, vb, e, h1, h2⟩ := h; exact ⟨va, vb, e, h1.below hb, h2.below hb⟩
    · obtain ⟨va, vb, e, h1, h2⟩ := h; exact ⟨va, vb, e, h1.below hb, h2.below hb⟩
    · exact h
    · exact h
  · intro i o ho hiZ a w2 hBl hSx hrd hpar
    rcases i with _|_|_|_|_|_|_|_|_|_|i
    · obtain rfl := Option.some.inj ho
      refine .inl ⟨rfl, ?_⟩
      exact wpv_of (wp_loadS 42 _ rfl _ (hpar 3 (.pointer (some ⟨w.heap.size, 0, none⟩)) (by kernel_rfl) (by kernel_rfl)) _ _ hSx.1 tcurve scurve) (fun _ _ => rfl)
    · obtain rfl := Option.some.inj ho
      refine .inl ⟨rfl, ?_⟩
      have e16 : a.eval (.tmp 16) = uE18 := hpar 16 _ (by kernel_rfl) (by kernel_rfl)
      have h16 := (fA.out).below hBl
      exact wpv_of (wp_move _ _ rfl e16) (fun w' hb => by have h := h16; exact h16.below hb)
    · obtain rfl := Option.some.inj ho
      refine .inl ⟨rfl, ?_⟩
      exact wpv_of (wp_fieldB 42 _ 0 rfl 0 1 fcurve0 (w.heap.size) 0 (hpar 3 _ (by kernel_rfl) (by kernel_rfl))) (fun _ _ => rfl)
    · obtain rfl := Option.some.inj ho
      refine .inl ⟨rfl, ?_⟩
      have e130 : a.eval (.tmp 130) = .pointer (some ⟨w.heap.size, 0 + 0, none⟩) := hrd 2 _ 130 rfl rfl (by kernel_rfl) (by kernel_rfl)
      exact wpv_of (wp_load_cell 38 _ rfl _ e130 .i64 uPrime _ (by rw [hSx.1.cell]; rfl)) (fun _ _ => rfl)
    · obtain rfl := Option.some.inj ho
      refine .inl ⟨rfl, ?_⟩
      have e18 : a.eval (.tmp 18) = VBQ := hpar 18 _ (by kernel_rfl) (by kernel_rfl)
      have h18 := (fBQ.out).below hBl
      exact wpv_of (wp_move _ _ rfl e18) (fun w' hb => by have h := h18; exact h18.below hb)
    · obtain rfl := Option.some.inj ho
      refine .inl ⟨rfl, ?_⟩
      have e16 : a.eval (.tmp 16) = uE18 := hpar 16 _ (by kernel_rfl) (by kernel_rfl)
      have h16 := (fA.out).below hBl
      exact wpv_of (wp_move _ _ rfl e16) (fun w' hb => by have h := h16; exact h16.below hb)
    · obtain rfl := Option.some.inj ho
      refine .inl ⟨rfl, ?_⟩
      have e131 : a.eval (.tmp 131) = .int .i64 p := hrd 3 _ 131 rfl rfl (by kernel_rfl) (by kernel_rfl)
      have h132 : (fun v w => IsRow w v (BQ)) (a.eval (.tmp 132)) w2 := hrd 4 _ 132 rfl rfl (by kernel_rfl) (by kernel_rfl)
      generalize e132 : a.eval (.tmp 132) = v132 at h132
      have h133 : (fun v w => IsRow w v (A)) (a.eval (.tmp 133)) w2 := hrd 5 _ 133 rfl rfl (by kernel_rfl) (by kernel_rfl)
      generalize e133 : a.eval (.tmp 133) = v133 at h133
      exact wpv_call 49 [.tmp 131, .tmp 132, .tmp 133] _ rfl [.int .i64 p, v132, v133] (by simp only [List.map_cons, List.map_nil, e131, e132, e133]) Try.call49 (m_R.out _ _ w2 h132 h133)
    · obtain rfl := Option.some.inj ho
      refine .inl ⟨rfl, ?_⟩
      have h129 : (fun v w => IsRow w v (A)) (a.eval (.tmp 129)) w2 := hrd 1 _ 129 rfl rfl (by kernel_rfl) (by kernel_rfl)
      generalize e129 : a.eval (.tmp 129) = v129 at h129
      have h134 : (fun v w => IsRow w v (RB)) (a.eval (.tmp 134)) w2 := hrd 6 _ 134 rfl rfl (by kernel_rfl) (by kernel_rfl)
      generalize e134 : a.eval (.tmp 134) = v134 at h134
      obtain ⟨ad1, n1, c1, rfl⟩ := h129.slice'
      obtain ⟨ad2, n2, c2, rfl⟩ := h134.slice'
      exact wpv_of (wp_build_pair 46 1 1 _ lform rfl _ _ rfl _ _ e129 e134 rfl rfl _ rfl) (fun w' hb => ⟨_, _, rfl, h129.below hb, h134.below hb⟩)
    · obtain rfl := Option.some.inj ho
      refine .inl ⟨rfl, ?_⟩
      have e128 : a.eval (.tmp 128) = .agg #[.int .i64 p, vd] := hrd 0 _ 128 rfl rfl (by kernel_rfl) (by kernel_rfl)
      have h135 : (fun v w => ∃ va vb, v = .agg #[va, vb] ∧ IsRow w va (A) ∧ IsRow w vb (RB)) (a.eval (.tmp 135)) w2 := hrd 7 _ 135 rfl rfl (by kernel_rfl) (by kernel_rfl)
      generalize e135 : a.eval (.tmp 135) = v135 at h135
      exact wpv_call 71 [.tmp 128, .tmp 135] _ rfl [.agg #[.int .i64 p, vd], v135] (by simp only [List.map_cons, List.map_nil, e128, e135]) Try.call71 (by obtain ⟨va, vb, rfl, q1, q2⟩ := h135; exact (m_red.out _ _ w2 (fds.out.below hBl) q1 q2).mono fun _ _ ⟨va, vb, h1, h2, h3, h4⟩ => ⟨_, h1, ⟨va, vb, rfl, h2, h3⟩, h4⟩)
    · obtain rfl := Option.some.inj ho
      exact absurd rfl hiZ
    · simp at ho
  intro oZ hoZ vals xL hBx hSx hc0
  obtain rfl := Option.some.inj hoZ
  clear hoZ
  have e0 : vals 0 = .agg #[.int .i64 p, vd] := hc0 0 (by simp) (by decide)
  have cL1 : (fun v w => IsRow w v (A)) (vals 1) xL := hc0 1 (by simp) (by decide)
  generalize ev1 : vals 1 = uL1 at cL1
  have e2 : vals 2 = .pointer (some ⟨w.heap.size, 0 + 0, none⟩) := hc0 2 (by simp) (by decide)
  have e3 : vals 3 = .int .i64 p := hc0 3 (by simp) (by decide)
  have cL4 : (fun v w => IsRow w v (BQ)) (vals 4) xL := hc0 4 (by simp) (by decide)
  generalize ev4 : vals 4 = uL4 at cL4
  have cL5 : (fun v w => IsRow w v (A)) (vals 5) xL := hc0 5 (by simp) (by decide)
  generalize ev5 : vals 5 = uL5 at cL5
  have cL6 : (fun v w => IsRow w v (RB)) (vals 6) xL := hc0 6 (by simp) (by decide)
  generalize ev6 : vals 6 = uL6 at cL6
  have cL7 : (fun v w => ∃ va vb, v = .agg #[va, vb] ∧ IsRow w va (A) ∧ IsRow w vb (RB)) (vals 7) xL := hc0 7 (by simp) (by decide)
  generalize ev7 : vals 7 = uL7 at cL7
  have cL8 : (fun v w => ∃ va vb, v = .agg #[va, vb] ∧ IsRow w va (R1) ∧ IsRow w vb (R2)) (vals 8) xL := hc0 8 (by simp) (by decide)
  generalize ev8 : vals 8 = uL8 at cL8
  refine ⟨rfl, ?_⟩
  simp only [List.length_cons, List.length_nil, Nat.zero_add, Nat.reduceAdd, List.replicate, seenAll, Bool.false_eq_true, if_false, putAll, if_true, Act.put, List.setIfInBounds_toArray, List.set_cons_zero, List.set_cons_succ, e0, ev1, e2, e3, ev4, ev5, ev6, ev7, ev8]
  replace hZ := hZ.keep hBx
  replace hC := hSx.1
  replace hF := hSx.2.1
  replace hG := hSx.2.2.1
  replace hb := below_step hb hBx
  clear hc0 hSx e0 ev1 e2 e3 ev4 ev5 ev6 ev7 ev8
  obtain ⟨vra, vrb, rfl, hra, hrb⟩ := cL8
  obtain ⟨ad1, n1, c1, rfl⟩ := hra.slice'
  obtain ⟨ad2, n2, c2, rfl⟩ := hrb.slice'
  have hra2 := hra.setRow hZ (two_nils _) #[.slice ad1 n1 c1, .slice ad2 n2 c2]
  have hrb2 := hrb.setRow hZ (two_nils _) #[.slice ad1 n1 c1, .slice ad2 n2 c2]
  refine wp_store_arr 46 _ _ rfl (w.heap.size + 1 + 1 + 1) rfl _ rfl _ _ hZ sform rfl (all_two rfl rfl) ?_
  go_wp2_with fail
  exact bodyPost_ret (res_s rfl rfl (hZ.setRow_same (cs := #[.slice ad1 n1 c1, .slice ad2 n2 c2])) tform sform) rfl ⟨_, _, rfl, hra2, hrb2, below_setRow hb (by omega) _⟩
end Go.Proofs.Ytohgjihccjnheab

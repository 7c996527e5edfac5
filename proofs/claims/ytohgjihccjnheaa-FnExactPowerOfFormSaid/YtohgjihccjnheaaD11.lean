/- Walks: ReduceForm. -/
import Derived.Test.YtohgjihccjnheaaD10
set_option linter.unusedVariables false
set_option linter.unusedSimpArgs false
namespace Go.Proofs.Ytohgjihccjnheaa
open Go.RowKit

theorem Disc.d64 {p : Int} {d : Nat → Int} (h : Disc p d) (hd : By d) : P64 p (mkp 64 d) := OkP.p64 h.1.1 hd
theorem FormOk.rd {p : Int} {d f g : Nat → Int} (hD : Disc p d) (hd : By d) (h : FormOk p (mkp 64 d) f g) (hf : By f) (hg : By g) : Rd p (mkp 64 d) (mkp 64 f) (mkp 64 g) :=
  ⟨h.1.2, (hD.d64 hd).po, hD.2.1, (h.1.p64 hf).po, (h.2.1.p64 hg).po, h.2.2⟩
theorem fm_mkp2 (f g : Nat → Int) : u8s 128 (fmF (cf (mkp 64 f)) (cf (mkp 64 g))) = u8s 128 (fmF f g) := u8s_ext fun j hj => by
  unfold fmF
  by_cases e : j < 64
  · rw [if_pos e, if_pos e, mkp_cf, if_pos e]
  · rw [if_neg e, if_neg e, mkp_cf, if_pos (by omega)]
def redF (b1 bf : Bool) (RA RB : List Int) : Nat → Int := if b1 && bf then fmF (cf RA) (cf RB) else fun _ => 0

set_option maxRecDepth 20000 in
set_option maxHeartbeats 2000000 in
theorem specReduceForm_any (d f g : Nat → Int) (p : Int) (b1 bf br : Bool) (T1 T2 : Nat → Bool) (RA RB : List Int) (w : World) (hRA : (red p (mkp 64 d) 13 (mkp 64 f) (mkp 64 g)).1 = RA) (hRB : (red p (mkp 64 d) 13 (mkp 64 f) (mkp 64 g)).2 = RB) (hf : By f) (hg : By g) (hT : FrmT p d (formsF [fmF f g]) 1 b1 bf br T1 T2) (hfo : bf = true → FormOk p (mkp 64 d) f g) :
    Calls Try.prog 18 #[.int .i64 p, .agg (u8s 64 d), .agg (u8s 128 (fmF f g))] w fun e w' => e = .returned (.tuple #[.agg (u8s 128 (redF b1 bf RA RB)), .int .i64 (codeF b1 bf true false br)]) ∧ Below w.heap.size w w' := by
  have hRAH := Lib.hid hRA
  have hRBH := Lib.hid hRB
  clear hRA hRB
  have hfH := Lib.hid hf
  have hgH := Lib.hid hg
  have hTH := Lib.hid hT
  have hfoH := Lib.hid hfo
  clear hf hg hT hfo
  obtain ⟨hb, hA, hB, hZ⟩ := boxes3 w (u8s 64 d) (u8s 128 (fmF f g)) (u8s 128 fun _ => 0) 24 31 31
  go_enter Try.func18, Try.ntmps18
  go_wp2_with ((with_reducible refine wpl_guard ?_); first | (refine wpl_alloc_arr rfl 31 rfl _ zForm ?_) | (refine wpl_load_arr rfl 24 _ rfl _ rfl _ _ hA _ _ uPoly sPoly ?_) | (refine wpl_load_str rfl 31 _ rfl _ rfl _ _ hB tForm sForm ?_) | (refine wpl_buildSlice_forms rfl 80 31 1 _ rfl Try.underlying80 sForm zForm [fmF f g] rfl (by decide) (by decide) rfl ?_))
  refine (l07Code_any d (formsF [fmF f g]) p 1 _ b1 bf br false T1 T2 _ (by omega) hTH.out (Blk.newAt (by simp) _ _)).mono ?_
  rintro e u0 ⟨rfl, hn⟩
  replace hA := (hA.alloc _).keep hn
  replace hB := (hB.alloc _).keep hn
  replace hZ := (hZ.alloc _).keep hn
  replace hb := below_step hb (below_step (below_new _ _) hn)
  clear hn
  cases b1
  · rw [codeF_no1]
    go_wp2_with ((with_reducible refine wpl_guard ?_); first | (refine wpl_build_zeroS rfl 31 _ _ lForm rfl ?_) | (refine wpl_store_arr rfl 31 _ _ rfl _ rfl _ rfl _ _ hZ sForm (by simp only [u8s_size]) (u8s_oneCell _ _) ?_))
    exact bodyPost_ret (res_st (x := .int .i64 1) rfl rfl (hZ.setRow_same (cs := u8s 128 fun _ => 0)) tForm sForm rfl) rfl ⟨rfl, below_setRow hb (by omega) _⟩
  cases bf
  · rw [codeF_no2]
    go_wp2_with ((with_reducible refine wpl_guard ?_); first | (refine wpl_build_zeroS rfl 31 _ _ lForm rfl ?_) | (refine wpl_store_arr rfl 31 _ _ rfl _ rfl _ rfl _ _ hZ sForm (by simp only [u8s_size]) (u8s_oneCell _ _) ?_))
    exact bodyPost_ret (res_st (x := .int .i64 1) rfl rfl (hZ.setRow_same (cs := u8s 128 fun _ => 0)) tForm sForm rfl) rfl ⟨rfl, below_setRow hb (by omega) _⟩
  rw [codeF_ok]
  have hFo := hfoH.out (by first | rfl | trivial)
  have hDi := hTH.out.disc.2 (by first | rfl | trivial)
  have hrd := hFo.rd hDi hTH.out.hd hfH.out hgH.out
  have he : redF true true RA RB = fmF (cf RA) (cf RB) := rfl
  have hRR := (Rd.red 13 hrd hrd.frm.2.1).1
  have k1 := fun w => l07Reduce_any p (mkp 64 d) (mkp 64 f) (mkp 64 g) w hrd
  rw [← u8s_mkp, fm_mkp2] at k1
  rw [hRAH.out, hRBH.out] at k1
  have k1H := Lib.hid k1
  have heH := Lib.hid he
  clear hFo hDi hrd he hRR k1 hRAH hRBH hfoH
  go_wp2_with ((with_reducible refine wpl_guard ?_); first | (refine wpl_load_arr rfl 24 _ rfl _ rfl _ _ hA _ _ uPoly sPoly ?_) | (refine wpl_load_str rfl 31 _ rfl _ rfl _ _ hB tForm sForm ?_))
  refine (k1H.out _).mono ?_
  rintro e u1 ⟨rfl, hn⟩
  replace hA := hA.keep hn
  replace hB := hB.keep hn
  replace hZ := hZ.keep hn
  replace hb := below_step hb hn
  clear hn
  go_wp2_with ((with_reducible refine wpl_guard ?_); first | (refine wpl_store_arr rfl 31 _ _ rfl _ rfl _ rfl _ _ hZ sForm (by simp only [u8s_size]) (u8s_oneCell _ _) ?_))
  exact bodyPost_ret (res_st (x := .int .i64 0) rfl rfl (hZ.setRow_same (cs := u8s 128 (fmF (cf RA) (cf RB)))) tForm sForm rfl) rfl ⟨by rw [heH.out]; rfl, below_setRow hb (by omega) _⟩

set_option maxRecDepth 20000 in
set_option maxHeartbeats 2000000 in
theorem implReduceForm_any (d f g : Nat → Int) (p : Int) (b1 bf br : Bool) (T1 T2 : Nat → Bool) (RA RB : List Int) (w : World) (hRA : (red p (mkp 64 d) 13 (mkp 64 f) (mkp 64 g)).1 = RA) (hRB : (red p (mkp 64 d) 13 (mkp 64 f) (mkp 64 g)).2 = RB) (hf : By f) (hg : By g) (hT : FrmT p d (formsF [fmF f g]) 1 b1 bf br T1 T2) (hfo : bf = true → FormOk p (mkp 64 d) f g) :
    Calls Try.prog 19 #[.int .i64 p, .agg (u8s 64 d), .agg (u8s 128 (fmF f g))] w fun e w' => e = .returned (.tuple #[.agg (u8s 128 (redF b1 bf RA RB)), .int .i64 (codeF b1 bf true false br)]) ∧ Below w.heap.size w w' := by
  have hRAH := Lib.hid hRA
  have hRBH := Lib.hid hRB
  clear hRA hRB
  have hfH := Lib.hid hf
  have hgH := Lib.hid hg
  have hTH := Lib.hid hT
  have hfoH := Lib.hid hfo
  clear hf hg hT hfo
  obtain ⟨hb, hA, hB, hZ⟩ := boxes3 w (u8s 64 d) (u8s 128 (fmF f g)) (u8s 128 fun _ => 0) 24 31 31
  go_enter Try.func19, Try.ntmps19
  go_wp2_with ((with_reducible refine wpl_guard ?_); first | (refine wpl_alloc_arr rfl 31 rfl _ zForm ?_) | (refine wpl_load_arr rfl 24 _ rfl _ rfl _ _ hA _ _ uPoly sPoly ?_) | (refine wpl_load_str rfl 31 _ rfl _ rfl _ _ hB tForm sForm ?_) | (refine wpl_buildSlice_forms rfl 80 31 1 _ rfl Try.underlying80 sForm zForm [fmF f g] rfl (by decide) (by decide) rfl ?_))
  refine (formCode_any d (formsF [fmF f g]) p 1 _ 31 b1 bf br true false T1 T2 _ (by omega) hTH.out (Blk.newAt (by simp) _ _)).mono ?_
  rintro e u0 ⟨rfl, hn⟩
  replace hA := (hA.alloc _).keep hn
  replace hB := (hB.alloc _).keep hn
  replace hZ := (hZ.alloc _).keep hn
  replace hb := below_step hb (below_step (below_new _ _) hn)
  clear hn
  cases b1
  · rw [codeF_no1]
    go_wp2_with ((with_reducible refine wpl_guard ?_); first | (refine wpl_build_zeroS rfl 31 _ _ lForm rfl ?_) | (refine wpl_store_arr rfl 31 _ _ rfl _ rfl _ rfl _ _ hZ sForm (by simp only [u8s_size]) (u8s_oneCell _ _) ?_))
    exact bodyPost_ret (res_st (x := .int .i64 1) rfl rfl (hZ.setRow_same (cs := u8s 128 fun _ => 0)) tForm sForm rfl) rfl ⟨rfl, below_setRow hb (by omega) _⟩
  cases bf
  · rw [codeF_no2]
    go_wp2_with ((with_reducible refine wpl_guard ?_); first | (refine wpl_build_zeroS rfl 31 _ _ lForm rfl ?_) | (refine wpl_store_arr rfl 31 _ _ rfl _ rfl _ rfl _ _ hZ sForm (by simp only [u8s_size]) (u8s_oneCell _ _) ?_))
    exact bodyPost_ret (res_st (x := .int .i64 1) rfl rfl (hZ.setRow_same (cs := u8s 128 fun _ => 0)) tForm sForm rfl) rfl ⟨rfl, below_setRow hb (by omega) _⟩
  rw [codeF_ok]
  have hFo := hfoH.out (by first | rfl | trivial)
  have hDi := hTH.out.disc.2 (by first | rfl | trivial)
  have hrd := hFo.rd hDi hTH.out.hd hfH.out hgH.out
  have he : redF true true RA RB = fmF (cf RA) (cf RB) := rfl
  have hRR := (Rd.red 13 hrd hrd.frm.2.1).1
  have k1 := fun w => curveOf_any p d w hTH.out.hd
  have k2 := fun w => formOf_any f g w hfH.out hgH.out
  have k3 := fun vd va vb w (h0 : IsRow w vd (mkp 64 d)) (h1 : IsRow w va (mkp 64 f)) (h2 : IsRow w vb (mkp 64 g)) => reduced_any vd va vb p _ _ _ w h0 h1 h2 hrd
  rw [hRAH.out, hRBH.out] at hRR k3
  have k4 := fun va vb w (h1 : IsRow w va RA) (h2 : IsRow w vb RB) => toldF_any va vb p _ _ w h1 h2 hRR.x64 hRR.y64
  obtain ⟨ds, hds⟩ : ∃ ds, mkp 64 d = ds := ⟨_, rfl⟩
  rw [hds] at k1 k3
  have heH := Lib.hid he
  have k1H := Lib.hid k1
  have k2H := Lib.hid k2
  have k3H := Lib.hid k3
  have k4H := Lib.hid k4
  clear hFo hDi hrd he hRR k1 k2 k3 k4 hds hRAH hRBH hfoH
  go_wp2_with fail
  go_upto_region 4 with (fail)
  refine gen_region (ws := w) (w := _) (B := w.heap.size) (by kernel_rfl) (by kernel_rfl) (by kernel_rfl) (by kernel_rfl)
      (fun i => ([fun zv _ => zv = .int .i64 p, fun zv _ => zv = .agg (u8s 64 d), fun v w => ∃ vd, v = .agg #[.int .i64 p, vd] ∧ IsRow w vd ds, fun zv _ => zv = .agg (u8s 128 (fmF f g)), fun v w => ∃ va vb, v = .agg #[va, vb] ∧ IsRow w va (mkp 64 f) ∧ IsRow w vb (mkp 64 g), fun v w => ∃ va vb, v = .agg #[va, vb] ∧ IsRow w va (RA) ∧ IsRow w vb (RB), fun zv _ => zv = .agg (u8s 128 (fmF (cf RA) (cf RB))), fun _ _ => True, fun zv _ => zv = .int .i64 0] : List (Value → World → Prop)).getD i (fun _ _ => True))
      (fun i => ([true, true, false, false, false, false, false, true, true] : List Bool).getD i true)
      1 (fun zk => [7].getD zk 0) (fun zk => [6].getD zk 0) (fun zk => [6].getD zk 0) (fun zk => [24].getD zk 0) (fun zk => [w.heap.size + 1 + 1].getD zk 0) (fun zk => [128].getD zk 0) (fun zk => [(fmF (cf RA) (cf RB))].getD zk (fun _ => 0)) (fun zk => [(fun _ => 0)].getD zk (fun _ => 0)) (fun zk => [31].getD zk 0) hb (Nat.le_refl _)
      (fun w' => Blk w' (w.heap.size) (u8s 64 d) 24 ∧ Blk w' (w.heap.size + 1) (u8s 128 (fmF f g)) 31 ∧ True) ⟨hA.drew, hB.drew, trivial⟩ (fun w1 w2 h hb => ⟨h.1.keep hb, h.2.1.keep hb, trivial⟩) ?_ ?_ ?_ ?_ ?_ ?_ ?_
  · intro k hk w1 cs h
    rcases k with _|k
    · exact ⟨h.1.setRow_other (by simp only [List.getD_cons_zero, List.getD_cons_succ] <;> omega), h.2.1.setRow_other (by simp only [List.getD_cons_zero, List.getD_cons_succ] <;> omega), trivial⟩
    · omega
  · intro i v w1 w2 h hb
    rcases i with _|_|_|_|_|_|_|_|_|i
    · exact h
    · exact h
    · obtain ⟨vd, e, h1⟩ := h; exact ⟨vd, e, h1.below hb⟩
    · exact h
    · obtain ⟨va, vb, e, h1, h2⟩ := h; exact ⟨va, vb, e, h1.below hb, h2.below hb⟩
    · obtain ⟨va, vb, e, h1, h2⟩ := h; exact ⟨va, vb, e, h1.below hb, h2.below hb⟩
    · exact h
    · exact h
    · exact h
    · exact h
  · intro k hk
    rcases k with _|k
    · kernel_rfl
    · omega
  · intro k hk
    rcases k with _|k
    · refine ⟨?_, (by kernel_rfl), hZ, fun v w' h => h, by decide, ?_⟩
      · simp only [List.getD_cons_zero, List.getD_cons_succ] <;> omega
      · intro k' hk' hne
        rcases k' with _|k'
        all_goals first | omega | exact absurd rfl hne | (refine ⟨?_, by decide⟩; simp only [List.getD_cons_zero, List.getD_cons_succ]; omega)
    · omega
  · kernel_rfl
  · intro i o ho hz a w2 hBs hSx hBl hrd hpar
    rcases i with _|_|_|_|_|_|_|_|_|i
    · obtain rfl := Option.some.inj ho
      have e0 : a.eval (.tmp 0) = .int .i64 p := hpar 0 _ (by kernel_rfl) (by kernel_rfl)
      exact wpv_of (wp_move _ _ rfl e0) (fun _ _ => rfl)
    · obtain rfl := Option.some.inj ho
      exact wpv_of (wp_loadB 24 _ rfl _ (hpar 4 (.pointer (some ⟨w.heap.size, 0, none⟩)) (by kernel_rfl) (by kernel_rfl)) _ _ hSx.1 _ _ uPoly sPoly) (fun _ _ => rfl)
    · obtain rfl := Option.some.inj ho
      obtain ⟨_, e18⟩ : ∃ _w : World, a.eval (.tmp 18) = .int .i64 p := (hrd 0 _ 18 rfl rfl (by kernel_rfl) (by kernel_rfl) (by decide)).1
      obtain ⟨_, e19⟩ : ∃ _w : World, a.eval (.tmp 19) = .agg (u8s 64 d) := (hrd 1 _ 19 rfl rfl (by kernel_rfl) (by kernel_rfl) (by decide)).1
      exact wpv_call 33 [.tmp 18, .tmp 19] _ rfl [.int .i64 p, .agg (u8s 64 d)] (by simp only [List.map_cons, List.map_nil, e18, e19]) Try.call33 ((k1H.out w2).mono fun _ _ ⟨vd, h1, h2, h3⟩ => ⟨_, h1, ⟨vd, rfl, h2⟩, h3⟩)
    · obtain rfl := Option.some.inj ho
      exact wpv_of (wp_loadS 31 _ rfl _ (hpar 5 (.pointer (some ⟨w.heap.size + 1, 0, none⟩)) (by kernel_rfl) (by kernel_rfl)) _ _ hSx.2.1 tForm sForm) (fun _ _ => rfl)
    · obtain rfl := Option.some.inj ho
      obtain ⟨_, e21⟩ : ∃ _w : World, a.eval (.tmp 21) = .agg (u8s 128 (fmF f g)) := (hrd 3 _ 21 rfl rfl (by kernel_rfl) (by kernel_rfl) (by decide)).1
      exact wpv_call 35 [.tmp 21] _ rfl [.agg (u8s 128 (fmF f g))] (by simp only [List.map_cons, List.map_nil, e21]) Try.call35 ((k2H.out w2).mono fun _ _ ⟨va, vb, h1, h2, h3, h4⟩ => ⟨_, h1, ⟨va, vb, rfl, h2, h3⟩, h4⟩)
    · obtain rfl := Option.some.inj ho
      have h20 : (fun v w => ∃ vd, v = .agg #[.int .i64 p, vd] ∧ IsRow w vd ds) (a.eval (.tmp 20)) w2 := (hrd 2 _ 20 rfl rfl (by kernel_rfl) (by kernel_rfl) (by decide)).2 rfl
      generalize e20 : a.eval (.tmp 20) = v20 at h20
      have h22 : (fun v w => ∃ va vb, v = .agg #[va, vb] ∧ IsRow w va (mkp 64 f) ∧ IsRow w vb (mkp 64 g)) (a.eval (.tmp 22)) w2 := (hrd 4 _ 22 rfl rfl (by kernel_rfl) (by kernel_rfl) (by decide)).2 rfl
      generalize e22 : a.eval (.tmp 22) = v22 at h22
      exact wpv_call 43 [.tmp 20, .tmp 22] _ rfl [v20, v22] (by simp only [List.map_cons, List.map_nil, e20, e22]) Try.call43 (by obtain ⟨vd, rfl, hr1⟩ := h20; obtain ⟨va, vb, rfl, hr2, hr3⟩ := h22; exact (k3H.out _ _ _ w2 hr1 hr2 hr3).mono fun _ _ ⟨va, vb, h1, h2, h3, h4⟩ => ⟨_, h1, ⟨va, vb, rfl, h2, h3⟩, h4⟩)
    · obtain rfl := Option.some.inj ho
      have h23 : (fun v w => ∃ va vb, v = .agg #[va, vb] ∧ IsRow w va (RA) ∧ IsRow w vb (RB)) (a.eval (.tmp 23)) w2 := (hrd 5 _ 23 rfl rfl (by kernel_rfl) (by kernel_rfl) (by decide)).2 rfl
      generalize e23 : a.eval (.tmp 23) = v23 at h23
      exact wpv_call 40 [.tmp 23] _ rfl [v23] (by simp only [List.map_cons, List.map_nil, e23]) Try.call40 (by obtain ⟨va, vb, rfl, hr2, hr3⟩ := h23; exact (k4H.out _ _ w2 hr2 hr3).mono fun _ _ ⟨h1, h2⟩ => ⟨_, h1, rfl, h2⟩)
    · exact absurd rfl (hz 0 (by decide))
    · obtain rfl := Option.some.inj ho
      exact wpv_of (wp_assign _ (.int .i64 0) rfl rfl) (fun _ _ => rfl)
    · simp at ho
  intro vals xE hBx hSx hS0 hcs hrs
  obtain ⟨_, e0⟩ : ∃ _w : World, vals 0 = .int .i64 p := hcs 0 (by simp) (by decide)
  obtain ⟨_, e1⟩ : ∃ _w : World, vals 1 = .agg (u8s 64 d) := hcs 1 (by simp) (by decide)
  obtain ⟨_, e3⟩ : ∃ _w : World, vals 3 = .agg (u8s 128 (fmF f g)) := hcs 3 (by simp) (by decide)
  obtain ⟨_, e6⟩ : ∃ _w : World, vals 6 = .agg (u8s 128 (fmF (cf RA) (cf RB))) := hcs 6 (by simp) (by decide)
  obtain ⟨_, e8⟩ : ∃ _w : World, vals 8 = .int .i64 0 := hcs 8 (by simp) (by decide)
  have hsE0 : Blk xE (w.heap.size + 1 + 1) (u8s 128 (fmF (cf RA) (cf RB))) 31 := hrs 0 (by decide)
  simp only [List.length_cons, List.length_nil, Nat.zero_add, Nat.reduceAdd, List.replicate, putAll, if_true, Act.put, List.setIfInBounds_toArray, List.set_cons_zero, List.set_cons_succ, e0, e1, e3, e6, e8]
  replace hA := hSx.1
  replace hB := hSx.2.1
  clear hcs hrs hS0 hSx e0 e1 e3 e6 e8
  go_wp2_with fail
  exact bodyPost_ret (res_st (x := .int .i64 0) rfl rfl hsE0 tForm sForm rfl) rfl ⟨by rw [heH.out]; rfl, hBx⟩

theorem ReduceForm_pair (p : Int) (d F : Nat → Int) (_ : (Lit.int .i64 p).wf = true) (hd : By d) (hF : By F) : ∃ (r0 : Nat → Int) (r1 : Int),
    (∀ w, Calls Try.prog 18 #[.int .i64 p, .agg (u8s 64 d), .agg (u8s 128 F)] w fun e w' => e = .returned (.tuple #[.agg (u8s 128 r0), .int .i64 r1]) ∧ Below w.heap.size w w') ∧
    (∀ w, Calls Try.prog 19 #[.int .i64 p, .agg (u8s 64 d), .agg (u8s 128 F)] w fun e w' => e = .returned (.tuple #[.agg (u8s 128 r0), .int .i64 r1]) ∧ Below w.heap.size w w') := by
  obtain ⟨b1, bf, br, T1, T2, hT, h1, _⟩ := frmT_lit p d [(F, fun j => F (64 + j))] hd (fun x hx => by rw [List.mem_singleton] at hx; subst hx; exact ⟨hF, fun j => hF _⟩)
  rw [fmF_self F]
  exact ⟨_, _, fun w => specReduceForm_any d F _ p b1 bf br T1 T2 _ _ w rfl rfl hF (fun j => hF _) hT (fun hb => h1 hb (F, fun j => F (64 + j)) (by simp)), fun w => implReduceForm_any d F _ p b1 bf br T1 T2 _ _ w rfl rfl hF (fun j => hF _) hT (fun hb => h1 hb (F, fun j => F (64 + j)) (by simp))⟩
end Go.Proofs.Ytohgjihccjnheaa

/- Walks: ComposeForms. -/
import Derived.Test.YtohgjihccjnheaaD13
set_option linter.unusedVariables false
set_option linter.unusedSimpArgs false
namespace Go.Proofs.Ytohgjihccjnheaa
open Go.RowKit

def cmpF (b : Bool) (RA RB : List Int) : Nat → Int := if b then fmF (cf RA) (cf RB) else fun _ => 0
theorem pair_of (x : List Int × List Int) : ∃ a b, x = (a, b) := ⟨x.1, x.2, rfl⟩
theorem Rdd.of {p : Int} {ds xs ys : List Int} (h : Rd p ds xs ys) (hr : (xs.length : Int) - 1 ≤ gns ds) : Rdd p ds (xs, ys) := ⟨h, hr⟩
theorem FormOk.rdd {p : Int} {d f g : Nat → Int} (hD : Disc p d) (hd : By d) (h : FormOk p (mkp 64 d) f g) (hf : By f) (hg : By g) (hr : ((mkp 64 f).length : Int) - 1 ≤ gns (mkp 64 d)) : Rdd p (mkp 64 d) (mkp 64 f, mkp 64 g) := Rdd.of (h.rd hD hd hf hg) hr

set_option maxRecDepth 20000 in
set_option maxHeartbeats 2000000 in
theorem specComposeForms_any (d f g f2 g2 : Nat → Int) (p : Int) (b1 bf br : Bool) (T1 T2 : Nat → Bool) (RA RB : List Int) (w : World) (hR : cpr p (mkp 64 d) (mkp 64 f, mkp 64 g) (mkp 64 f2, mkp 64 g2) = (RA, RB)) (hf : By f) (hg : By g) (hf2 : By f2) (hg2 : By g2) (hT : FrmT p d (formsF [fmF f g, fmF f2 g2]) 2 b1 bf br T1 T2) (hfo : bf = true → FormOk p (mkp 64 d) f g ∧ FormOk p (mkp 64 d) f2 g2) (hbr : br = true → ((mkp 64 f).length : Int) - 1 ≤ gns (mkp 64 d) ∧ ((mkp 64 f2).length : Int) - 1 ≤ gns (mkp 64 d)) :
    Calls Try.prog 20 #[.int .i64 p, .agg (u8s 64 d), .agg (u8s 128 (fmF f g)), .agg (u8s 128 (fmF f2 g2))] w fun e w' => e = .returned (.tuple #[.agg (u8s 128 (cmpF (b1 && bf && br) RA RB)), .int .i64 (codeF b1 bf true true br)]) ∧ Below w.heap.size w w' := by
  have hRH := Lib.hid hR
  have hfH := Lib.hid (And.intro (And.intro hf hg) (And.intro hf2 hg2))
  have hTH := Lib.hid hT
  have hfoH := Lib.hid hfo
  have hbrH := Lib.hid hbr
  clear hR hf hg hf2 hg2 hT hfo hbr
  obtain ⟨hb, hA, hB, hE, hZ⟩ := boxes4 w (u8s 64 d) (u8s 128 (fmF f g)) (u8s 128 (fmF f2 g2)) (u8s 128 fun _ => 0) 24 31 31 31
  go_enter Try.func20, Try.ntmps20
  go_wp2_with ((with_reducible refine wpl_guard ?_); first | (refine wpl_alloc_arr rfl 31 rfl _ zForm ?_) | (refine wpl_load_arr rfl 24 _ rfl _ rfl _ _ hA _ _ uPoly sPoly ?_) | (refine wpl_load_str rfl 31 _ rfl _ rfl _ _ hB tForm sForm ?_) | (refine wpl_load_str rfl 31 _ rfl _ rfl _ _ hE tForm sForm ?_) | (refine wpl_buildSlice_forms rfl 80 31 2 _ rfl Try.underlying80 sForm zForm [fmF f g, fmF f2 g2] rfl (by decide) (by decide) rfl ?_))
  refine (l07Code_any d (formsF [fmF f g, fmF f2 g2]) p 2 _ b1 bf br true T1 T2 _ (by omega) hTH.out (Blk.newAt (by simp) _ _)).mono ?_
  rintro e u0 ⟨rfl, hn⟩
  replace hA := (hA.alloc _).keep hn
  replace hB := (hB.alloc _).keep hn
  replace hE := (hE.alloc _).keep hn
  replace hZ := (hZ.alloc _).keep hn
  replace hb := below_step hb (below_step (below_new _ _) hn)
  clear hn
  cases b1
  · rw [codeF_no1]
    go_wp2_with ((with_reducible refine wpl_guard ?_); first | (refine wpl_build_zeroS rfl 31 _ _ lForm rfl ?_) | (refine wpl_store_arr rfl 31 _ _ rfl _ rfl _ rfl _ _ hZ sForm (by simp only [u8s_size]) (u8s_oneCell _ _) ?_))
    exact bodyPost_ret (res_st (x := .int .i64 1) rfl rfl (hZ.setRow_same (cs := u8s 128 fun _ => 0)) tForm sForm rfl) rfl ⟨rfl, below_setRow hb (by omega) _⟩
  cases bf
  · rw [codeF_no2]
    go_wp2_with ((with_reducible refine wpl_guard ?_); first | (refine wpl_build_zeroS rfl 31 _ _ lForm rfl ?_) | (refine wpl_store_arr rfl 31 _ _ rfl _ rfl _ rfl _ _ hZ sForm (by simp only [u8s_size]) (u8s_oneCell _ _) ?_))
    exact bodyPost_ret (res_st (x := .int .i64 1) rfl rfl (hZ.setRow_same (cs := u8s 128 fun _ => 0)) tForm sForm rfl) rfl ⟨rfl, below_setRow hb (by omega) _⟩
  cases br
  · rw [codeF_red]
    go_wp2_with ((with_reducible refine wpl_guard ?_); first | (refine wpl_build_zeroS rfl 31 _ _ lForm rfl ?_) | (refine wpl_store_arr rfl 31 _ _ rfl _ rfl _ rfl _ _ hZ sForm (by simp only [u8s_size]) (u8s_oneCell _ _) ?_))
    exact bodyPost_ret (res_st (x := .int .i64 5) rfl rfl (hZ.setRow_same (cs := u8s 128 fun _ => 0)) tForm sForm rfl) rfl ⟨rfl, below_setRow hb (by omega) _⟩
  rw [codeF_ok2]
  have hFo := hfoH.out (by first | rfl | trivial)
  have hLe := hbrH.out (by first | rfl | trivial)
  have hDi := hTH.out.disc.2 (by first | rfl | trivial)
  have hr1 := hFo.1.rdd hDi hTH.out.hd hfH.out.1.1 hfH.out.1.2 hLe.1
  have hr2 := hFo.2.rdd hDi hTH.out.hd hfH.out.2.1 hfH.out.2.2 hLe.2
  have he : cmpF (true && true && true) RA RB = fmF (cf RA) (cf RB) := rfl
  have hRR := (cpr_Rdd hr1 hr2).1
  rw [hRH.out] at hRR
  have k1 := fun w => l07Compose_any p (mkp 64 d) (mkp 64 f) (mkp 64 g) (mkp 64 f2) (mkp 64 g2) w hr1 hr2
  rw [← u8s_mkp, fm_mkp2, fm_mkp2, hRH.out] at k1
  have k1H := Lib.hid k1
  have heH := Lib.hid he
  clear hFo hLe hDi hr1 hr2 he hRR k1 hRH hfoH hbrH
  go_wp2_with ((with_reducible refine wpl_guard ?_); first | (refine wpl_load_arr rfl 24 _ rfl _ rfl _ _ hA _ _ uPoly sPoly ?_) | (refine wpl_load_str rfl 31 _ rfl _ rfl _ _ hB tForm sForm ?_) | (refine wpl_load_str rfl 31 _ rfl _ rfl _ _ hE tForm sForm ?_))
  refine (k1H.out _).mono ?_
  rintro e u1 ⟨rfl, hn⟩
  replace hA := hA.keep hn
  replace hB := hB.keep hn
  replace hE := hE.keep hn
  replace hZ := hZ.keep hn
  replace hb := below_step hb hn
  clear hn
  go_wp2_with ((with_reducible refine wpl_guard ?_); first | (refine wpl_store_arr rfl 31 _ _ rfl _ rfl _ rfl _ _ hZ sForm (by simp only [u8s_size]) (u8s_oneCell _ _) ?_))
  exact bodyPost_ret (res_st (x := .int .i64 0) rfl rfl (hZ.setRow_same (cs := u8s 128 (fmF (cf RA) (cf RB)))) tForm sForm rfl) rfl ⟨by rw [heH.out]; rfl, below_setRow hb (by omega) _⟩

set_option maxRecDepth 20000 in
set_option maxHeartbeats 2000000 in
theorem implComposeForms_any (d f g f2 g2 : Nat → Int) (p : Int) (b1 bf br : Bool) (T1 T2 : Nat → Bool) (RA RB : List Int) (w : World) (hR : cpr p (mkp 64 d) (mkp 64 f, mkp 64 g) (mkp 64 f2, mkp 64 g2) = (RA, RB)) (hf : By f) (hg : By g) (hf2 : By f2) (hg2 : By g2) (hT : FrmT p d (formsF [fmF f g, fmF f2 g2]) 2 b1 bf br T1 T2) (hfo : bf = true → FormOk p (mkp 64 d) f g ∧ FormOk p (mkp 64 d) f2 g2) (hbr : br = true → ((mkp 64 f).length : Int) - 1 ≤ gns (mkp 64 d) ∧ ((mkp 64 f2).length : Int) - 1 ≤ gns (mkp 64 d)) :
    Calls Try.prog 21 #[.int .i64 p, .agg (u8s 64 d), .agg (u8s 128 (fmF f g)), .agg (u8s 128 (fmF f2 g2))] w fun e w' => e = .returned (.tuple #[.agg (u8s 128 (cmpF (b1 && bf && br) RA RB)), .int .i64 (codeF b1 bf true true br)]) ∧ Below w.heap.size w w' := by
  have hRH := Lib.hid hR
  have hfH := Lib.hid (And.intro (And.intro hf hg) (And.intro hf2 hg2))
  have hTH := Lib.hid hT
  have hfoH := Lib.hid hfo
  have hbrH := Lib.hid hbr
  clear hR hf hg hf2 hg2 hT hfo hbr
  obtain ⟨hb, hA, hB, hE, hZ⟩ := boxes4 w (u8s 64 d) (u8s 128 (fmF f g)) (u8s 128 (fmF f2 g2)) (u8s 128 fun _ => 0) 24 31 31 31
  go_enter Try.func21, Try.ntmps21
  go_wp2_with ((with_reducible refine wpl_guard ?_); first | (refine wpl_alloc_arr rfl 31 rfl _ zForm ?_) | (refine wpl_load_arr rfl 24 _ rfl _ rfl _ _ hA _ _ uPoly sPoly ?_) | (refine wpl_load_str rfl 31 _ rfl _ rfl _ _ hB tForm sForm ?_) | (refine wpl_load_str rfl 31 _ rfl _ rfl _ _ hE tForm sForm ?_) | (refine wpl_buildSlice_forms rfl 80 31 2 _ rfl Try.underlying80 sForm zForm [fmF f g, fmF f2 g2] rfl (by decide) (by decide) rfl ?_))
  refine (formCode_any d (formsF [fmF f g, fmF f2 g2]) p 2 _ 31 b1 bf br true true T1 T2 _ (by omega) hTH.out (Blk.newAt (by simp) _ _)).mono ?_
  rintro e u0 ⟨rfl, hn⟩
  replace hA := (hA.alloc _).keep hn
  replace hB := (hB.alloc _).keep hn
  replace hE := (hE.alloc _).keep hn
  replace hZ := (hZ.alloc _).keep hn
  replace hb := below_step hb (below_step (below_new _ _) hn)
  clear hn
  cases b1
  · rw [codeF_no1]
    go_wp2_with ((with_reducible refine wpl_guard ?_); first | (refine wpl_build_zeroS rfl 31 _ _ lForm rfl ?_) | (refine wpl_store_arr rfl 31 _ _ rfl _ rfl _ rfl _ _ hZ sForm (by simp only [u8s_size]) (u8s_oneCell _ _) ?_))
    exact bodyPost_ret (res_st (x := .int .i64 1) rfl rfl (hZ.setRow_same (cs := u8s 128 fun _ => 0)) tForm sForm rfl) rfl ⟨rfl, below_setRow hb (by omega) _⟩
  cases bf
  · rw [codeF_no2]
    go_wp2_with ((with_reducible refine wpl_guard ?_); first | (refine wpl_build_zeroS rfl 31 _ _ lForm rfl ?_) | (refine wpl_store_arr rfl 31 _ _ rfl _ rfl _ rfl _ _ hZ sForm (by simp only [u8s_size]) (u8s_oneCell _ _) ?_))
    exact bodyPost_ret (res_st (x := .int .i64 1) rfl rfl (hZ.setRow_same (cs := u8s 128 fun _ => 0)) tForm sForm rfl) rfl ⟨rfl, below_setRow hb (by omega) _⟩
  cases br
  · rw [codeF_red]
    go_wp2_with ((with_reducible refine wpl_guard ?_); first | (refine wpl_build_zeroS rfl 31 _ _ lForm rfl ?_) | (refine wpl_store_arr rfl 31 _ _ rfl _ rfl _ rfl _ _ hZ sForm (by simp only [u8s_size]) (u8s_oneCell _ _) ?_))
    exact bodyPost_ret (res_st (x := .int .i64 5) rfl rfl (hZ.setRow_same (cs := u8s 128 fun _ => 0)) tForm sForm rfl) rfl ⟨rfl, below_setRow hb (by omega) _⟩
  rw [codeF_ok2]
  have hFo := hfoH.out (by first | rfl | trivial)
  have hLe := hbrH.out (by first | rfl | trivial)
  have hDi := hTH.out.disc.2 (by first | rfl | trivial)
  have hr1 := hFo.1.rdd hDi hTH.out.hd hfH.out.1.1 hfH.out.1.2 hLe.1
  have hr2 := hFo.2.rdd hDi hTH.out.hd hfH.out.2.1 hfH.out.2.2 hLe.2
  have he : cmpF (true && true && true) RA RB = fmF (cf RA) (cf RB) := rfl
  have hRR := (cpr_Rdd hr1 hr2).1
  rw [hRH.out] at hRR
  have k1 := fun w => curveOf_any p d w hTH.out.hd
  have k2 := fun w => formOf_any f g w hfH.out.1.1 hfH.out.1.2
  have k5 := fun w => formOf_any f2 g2 w hfH.out.2.1 hfH.out.2.2
  have k3 := fun vd va vb va2 vb2 w (h0 : IsRow w vd (mkp 64 d)) (h1 : IsRow w va (mkp 64 f)) (h2 : IsRow w vb (mkp 64 g)) (h3 : IsRow w va2 (mkp 64 f2)) (h4 : IsRow w vb2 (mkp 64 g2)) => composeF_any vd va vb va2 vb2 p _ _ _ _ _ w h0 h1 h2 h3 h4 hr1 hr2
  rw [hRH.out] at k3
  have k4 := fun va vb w (h1 : IsRow w va RA) (h2 : IsRow w vb RB) => toldF_any va vb p _ _ w h1 h2 hRR.x64 hRR.y64
  obtain ⟨ds, hds⟩ : ∃ ds, mkp 64 d = ds := ⟨_, rfl⟩
  rw [hds] at k1 k3
  have heH := Lib.hid he
  have k1H := Lib.hid k1
  have k2H := Lib.hid k2
  have k3H := Lib.hid k3
  have k4H := Lib.hid k4
  have k5H := Lib.hid k5
  clear hFo hLe hDi hr1 hr2 he hRR k1 k2 k3 k4 k5 hds hRH hfoH hbrH
  go_wp2_with fail
  go_upto_region 4 with (fail)
  refine gen_region (ws := w) (w := _) (B := w.heap.size) (by kernel_rfl) (by kernel_rfl) (by kernel_rfl) (by kernel_rfl)
      (fun i => ([fun zv _ => zv = .int .i64 p, fun zv _ => zv = .agg (u8s 64 d), fun v w => ∃ vd, v = .agg #[.int .i64 p, vd] ∧ IsRow w vd ds, fun zv _ => zv = .agg (u8s 128 (fmF f g)), fun v w => ∃ va vb, v = .agg #[va, vb] ∧ IsRow w va (mkp 64 f) ∧ IsRow w vb (mkp 64 g), fun zv _ => zv = .agg (u8s 128 (fmF f2 g2)), fun v w => ∃ va vb, v = .agg #[va, vb] ∧ IsRow w va (mkp 64 f2) ∧ IsRow w vb (mkp 64 g2), fun v w => ∃ va vb, v = .agg #[va, vb] ∧ IsRow w va (RA) ∧ IsRow w vb (RB), fun zv _ => zv = .agg (u8s 128 (fmF (cf RA) (cf RB))), fun _ _ => True, fun zv _ => zv = .int .i64 0] : List (Value → World → Prop)).getD i (fun _ _ => True))
      (fun i => ([true, true, false, false, false, false, false, false, false, true, true] : List Bool).getD i true)
      1 (fun zk => [9].getD zk 0) (fun zk => [8].getD zk 0) (fun zk => [8].getD zk 0) (fun zk => [29].getD zk 0) (fun zk => [w.heap.size + 1 + 1 + 1].getD zk 0) (fun zk => [128].getD zk 0) (fun zk => [(fmF (cf RA) (cf RB))].getD zk (fun _ => 0)) (fun zk => [(fun _ => 0)].getD zk (fun _ => 0)) (fun zk => [31].getD zk 0) hb (Nat.le_refl _)
      (fun w' => Blk w' (w.heap.size) (u8s 64 d) 24 ∧ Blk w' (w.heap.size + 1) (u8s 128 (fmF f g)) 31 ∧ Blk w' (w.heap.size + 1 + 1) (u8s 128 (fmF f2 g2)) 31 ∧ True) ⟨hA.drew, hB.drew, hE.drew, trivial⟩ (fun w1 w2 h hb => ⟨h.1.keep hb, h.2.1.keep hb, h.2.2.1.keep hb, trivial⟩) ?_ ?_ ?_ ?_ ?_ ?_ ?_
  · intro k hk w1 cs h
    rcases k with _|k
    · exact ⟨h.1.setRow_other (by simp only [List.getD_cons_zero, List.getD_cons_succ] <;> omega), h.2.1.setRow_other (by simp only [List.getD_cons_zero, List.getD_cons_succ] <;> omega), h.2.2.1.setRow_other (by simp only [List.getD_cons_zero, List.getD_cons_succ] <;> omega), trivial⟩
    · omega
  · intro i v w1 w2 h hb
    rcases i with _|_|_|_|_|_|_|_|_|_|_|i
    · exact h
    · exact h
    · obtain ⟨vd, e, h1⟩ := h; exact ⟨vd, e, h1.below hb⟩
    · exact h
    · obtain ⟨va, vb, e, h1, h2⟩ := h; exact ⟨va, vb, e, h1.below hb, h2.below hb⟩
    · exact h
    · obtain ⟨va, vb, e, h1, h2⟩ := h; exact ⟨va, vb, e, h1.below hb, h2.below hb⟩
    · obtain ⟨va, vb, e, h1, h2⟩ := h; exact ⟨va, vb, e, h1.below hb, h2.below hb⟩
    · exact h
    · exact h
    · exact h
    · exact h
  · intro k hk
    rcases k with _|k
    · kernel_rfl
    · omega
  · intro k hk
    rcases k with _|k
    · refine ⟨?_, (by kernel_rfl), hZ, fun v w' h => h, by decide, ?_⟩
      · simp only [List.getD_cons_zero, List.getD_cons_succ] <;> omega
      · intro k' hk' hne
        rcases k' with _|k'
        all_goals first | omega | exact absurd rfl hne | (refine ⟨?_, by decide⟩; simp only [List.getD_cons_zero, List.getD_cons_succ]; omega)
    · omega
  · kernel_rfl
  · intro i o ho hz a w2 hBs hSx hBl hrd hpar
    rcases i with _|_|_|_|_|_|_|_|_|_|_|i
    · obtain rfl := Option.some.inj ho
      have e0 : a.eval (.tmp 0) = .int .i64 p := hpar 0 _ (by kernel_rfl) (by kernel_rfl)
      exact wpv_of (wp_move _ _ rfl e0) (fun _ _ => rfl)
    · obtain rfl := Option.some.inj ho
      exact wpv_of (wp_loadB 24 _ rfl _ (hpar 5 (.pointer (some ⟨w.heap.size, 0, none⟩)) (by kernel_rfl) (by kernel_rfl)) _ _ hSx.1 _ _ uPoly sPoly) (fun _ _ => rfl)
    · obtain rfl := Option.some.inj ho
      obtain ⟨_, e21⟩ : ∃ _w : World, a.eval (.tmp 21) = .int .i64 p := (hrd 0 _ 21 rfl rfl (by kernel_rfl) (by kernel_rfl) (by decide)).1
      obtain ⟨_, e22⟩ : ∃ _w : World, a.eval (.tmp 22) = .agg (u8s 64 d) := (hrd 1 _ 22 rfl rfl (by kernel_rfl) (by kernel_rfl) (by decide)).1
      exact wpv_call 33 [.tmp 21, .tmp 22] _ rfl [.int .i64 p, .agg (u8s 64 d)] (by simp only [List.map_cons, List.map_nil, e21, e22]) Try.call33 ((k1H.out w2).mono fun _ _ ⟨vd, h1, h2, h3⟩ => ⟨_, h1, ⟨vd, rfl, h2⟩, h3⟩)
    · obtain rfl := Option.some.inj ho
      exact wpv_of (wp_loadS 31 _ rfl _ (hpar 6 (.pointer (some ⟨w.heap.size + 1, 0, none⟩)) (by kernel_rfl) (by kernel_rfl)) _ _ hSx.2.1 tForm sForm) (fun _ _ => rfl)
    · obtain rfl := Option.some.inj ho
      obtain ⟨_, e24⟩ : ∃ _w : World, a.eval (.tmp 24) = .agg (u8s 128 (fmF f g)) := (hrd 3 _ 24 rfl rfl (by kernel_rfl) (by kernel_rfl) (by decide)).1
      exact wpv_call 35 [.tmp 24] _ rfl [.agg (u8s 128 (fmF f g))] (by simp only [List.map_cons, List.map_nil, e24]) Try.call35 ((k2H.out w2).mono fun _ _ ⟨va, vb, h1, h2, h3, h4⟩ => ⟨_, h1, ⟨va, vb, rfl, h2, h3⟩, h4⟩)
    · obtain rfl := Option.some.inj ho
      exact wpv_of (wp_loadS 31 _ rfl _ (hpar 7 (.pointer (some ⟨w.heap.size + 1 + 1, 0, none⟩)) (by kernel_rfl) (by kernel_rfl)) _ _ hSx.2.2.1 tForm sForm) (fun _ _ => rfl)
    · obtain rfl := Option.some.inj ho
      obtain ⟨_, e26⟩ : ∃ _w : World, a.eval (.tmp 26) = .agg (u8s 128 (fmF f2 g2)) := (hrd 5 _ 26 rfl rfl (by kernel_rfl) (by kernel_rfl) (by decide)).1
      exact wpv_call 35 [.tmp 26] _ rfl [.agg (u8s 128 (fmF f2 g2))] (by simp only [List.map_cons, List.map_nil, e26]) Try.call35 ((k5H.out w2).mono fun _ _ ⟨va, vb, h1, h2, h3, h4⟩ => ⟨_, h1, ⟨va, vb, rfl, h2, h3⟩, h4⟩)
    · obtain rfl := Option.some.inj ho
      have h23 : (fun v w => ∃ vd, v = .agg #[.int .i64 p, vd] ∧ IsRow w vd ds) (a.eval (.tmp 23)) w2 := (hrd 2 _ 23 rfl rfl (by kernel_rfl) (by kernel_rfl) (by decide)).2 rfl
      generalize e23 : a.eval (.tmp 23) = v23 at h23
      have h25 : (fun v w => ∃ va vb, v = .agg #[va, vb] ∧ IsRow w va (mkp 64 f) ∧ IsRow w vb (mkp 64 g)) (a.eval (.tmp 25)) w2 := (hrd 4 _ 25 rfl rfl (by kernel_rfl) (by kernel_rfl) (by decide)).2 rfl
      generalize e25 : a.eval (.tmp 25) = v25 at h25
      have h27 : (fun v w => ∃ va vb, v = .agg #[va, vb] ∧ IsRow w va (mkp 64 f2) ∧ IsRow w vb (mkp 64 g2)) (a.eval (.tmp 27)) w2 := (hrd 6 _ 27 rfl rfl (by kernel_rfl) (by kernel_rfl) (by decide)).2 rfl
      generalize e27 : a.eval (.tmp 27) = v27 at h27
      exact wpv_call 45 [.tmp 23, .tmp 25, .tmp 27] _ rfl [v23, v25, v27] (by simp only [List.map_cons, List.map_nil, e23, e25, e27]) Try.call45 (by obtain ⟨vd, rfl, hr1⟩ := h23; obtain ⟨va, vb, rfl, hr2, hr3⟩ := h25; obtain ⟨va2, vb2, rfl, hr4, hr5⟩ := h27; exact (k3H.out _ _ _ _ _ w2 hr1 hr2 hr3 hr4 hr5).mono fun _ _ ⟨va, vb, h1, h2, h3, h4⟩ => ⟨_, h1, ⟨va, vb, rfl, h2, h3⟩, h4⟩)
    · obtain rfl := Option.some.inj ho
      have h28 : (fun v w => ∃ va vb, v = .agg #[va, vb] ∧ IsRow w va (RA) ∧ IsRow w vb (RB)) (a.eval (.tmp 28)) w2 := (hrd 7 _ 28 rfl rfl (by kernel_rfl) (by kernel_rfl) (by decide)).2 rfl
      generalize e28 : a.eval (.tmp 28) = v28 at h28
      exact wpv_call 40 [.tmp 28] _ rfl [v28] (by simp only [List.map_cons, List.map_nil, e28]) Try.call40 (by obtain ⟨va, vb, rfl, hr2, hr3⟩ := h28; exact (k4H.out _ _ w2 hr2 hr3).mono fun _ _ ⟨h1, h2⟩ => ⟨_, h1, rfl, h2⟩)
    · exact absurd rfl (hz 0 (by decide))
    · obtain rfl := Option.some.inj ho
      exact wpv_of (wp_assign _ (.int .i64 0) rfl rfl) (fun _ _ => rfl)
    · simp at ho
  intro vals xE hBx hSx hS0 hcs hrs
  obtain ⟨_, e0⟩ : ∃ _w : World, vals 0 = .int .i64 p := hcs 0 (by simp) (by decide)
  obtain ⟨_, e1⟩ : ∃ _w : World, vals 1 = .agg (u8s 64 d) := hcs 1 (by simp) (by decide)
  obtain ⟨_, e3⟩ : ∃ _w : World, vals 3 = .agg (u8s 128 (fmF f g)) := hcs 3 (by simp) (by decide)
  obtain ⟨_, e5⟩ : ∃ _w : World, vals 5 = .agg (u8s 128 (fmF f2 g2)) := hcs 5 (by simp) (by decide)
  obtain ⟨_, e8⟩ : ∃ _w : World, vals 8 = .agg (u8s 128 (fmF (cf RA) (cf RB))) := hcs 8 (by simp) (by decide)
  obtain ⟨_, e10⟩ : ∃ _w : World, vals 10 = .int .i64 0 := hcs 10 (by simp) (by decide)
  have hsE0 : Blk xE (w.heap.size + 1 + 1 + 1) (u8s 128 (fmF (cf RA) (cf RB))) 31 := hrs 0 (by decide)
  simp only [List.length_cons, List.length_nil, Nat.zero_add, Nat.reduceAdd, List.replicate, putAll, if_true, Act.put, List.setIfInBounds_toArray, List.set_cons_zero, List.set_cons_succ, e0, e1, e3, e5, e8, e10]
  replace hA := hSx.1
  replace hB := hSx.2.1
  replace hE := hSx.2.2.1
  clear hcs hrs hS0 hSx e0 e1 e3 e5 e8 e10
  go_wp2_with fail
  exact bodyPost_ret (res_st (x := .int .i64 0) rfl rfl hsE0 tForm sForm rfl) rfl ⟨by rw [heH.out]; rfl, hBx⟩

theorem ComposeForms_pair (p : Int) (d F F2 : Nat → Int) (_ : (Lit.int .i64 p).wf = true) (hd : By d) (hF : By F) (hF2 : By F2) : ∃ (r0 : Nat → Int) (r1 : Int),
    (∀ w, Calls Try.prog 20 #[.int .i64 p, .agg (u8s 64 d), .agg (u8s 128 F), .agg (u8s 128 F2)] w fun e w' => e = .returned (.tuple #[.agg (u8s 128 r0), .int .i64 r1]) ∧ Below w.heap.size w w') ∧
    (∀ w, Calls Try.prog 21 #[.int .i64 p, .agg (u8s 64 d), .agg (u8s 128 F), .agg (u8s 128 F2)] w fun e w' => e = .returned (.tuple #[.agg (u8s 128 r0), .int .i64 r1]) ∧ Below w.heap.size w w') := by
  obtain ⟨b1, bf, br, T1, T2, hT, h1, h2⟩ := frmT_lit p d [(F, fun j => F (64 + j)), (F2, fun j => F2 (64 + j))] hd (fun x hx => by
    rcases List.mem_cons.1 hx with rfl | hx
    · exact ⟨hF, fun j => hF _⟩
    · rw [List.mem_singleton] at hx; subst hx; exact ⟨hF2, fun j => hF2 _⟩)
  rw [fmF_self F, fmF_self F2]
  obtain ⟨RA, RB, hR⟩ := pair_of (cpr p (mkp 64 d) (mkp 64 F, mkp 64 (fun j => F (64 + j))) (mkp 64 F2, mkp 64 (fun j => F2 (64 + j))))
  exact ⟨_, _, fun w => specComposeForms_any d F _ F2 _ p b1 bf br T1 T2 _ _ w hR hF (fun j => hF _) hF2 (fun j => hF2 _) hT (fun hb => ⟨h1 hb (F, fun j => F (64 + j)) (by simp), h1 hb (F2, fun j => F2 (64 + j)) (by simp)⟩) (fun hb => ⟨h2 hb (F, fun j => F (64 + j)) (by simp), h2 hb (F2, fun j => F2 (64 + j)) (by simp)⟩), fun w => implComposeForms_any d F _ F2 _ p b1 bf br T1 T2 _ _ w hR hF (fun j => hF _) hF2 (fun j => hF2 _) hT (fun hb => ⟨h1 hb (F, fun j => F (64 + j)) (by simp), h1 hb (F2, fun j => F2 (64 + j)) (by simp)⟩) (fun hb => ⟨h2 hb (F, fun j => F (64 + j)) (by simp), h2 hb (F2, fun j => F2 (64 + j)) (by simp)⟩)⟩
end Go.Proofs.Ytohgjihccjnheaa

/- Walks: compositions of polynomials on both sides. -/
import Derived.Test.YthkkicanockhgaaC2
import Derived.Test.YthkkicanockhgaaS5
import Derived.Test.YthkkicanockhgaaA7
set_option linter.unusedVariables false
set_option linter.unusedSimpArgs false
namespace Go.Proofs.Ythkkicanockhgaa
open Go.RowKit

theorem evl_ev (p x : Int) : ∀ l, evl p x l = ev p x l
  | [] => rfl
  | a :: tl => by show (evl p x tl * x + a) % p = (ev p x tl * x + a) % p; rw [evl_ev p x tl]

set_option maxRecDepth 20000 in
set_option maxHeartbeats 2000000 in
theorem implComposePolys_any (p : Int) (f : Nat → Int) (g : Nat → Int) (w : World) (hf : By f) (hg : By g) (b : Bool) (hb : Good p [f, g] ↔ b = true) :
    Calls Try.prog 33 #[.int .i64 p, .agg (u8s 64 f), .agg (u8s 64 g)] w fun e w' => e = .returned (.tuple #[.agg (u8s 64 (if b then toldF (cmpp p (mkp 64 g) (mkp 64 f)) else fun _ => 0)), .int .i64 (if b then toldC (cmpp p (mkp 64 g) (mkp 64 f)) else 1)]) ∧ Below w.heap.size w w' := by
  obtain ⟨M, hM⟩ : ∃ M, cmpp p (mkp 64 g) (mkp 64 f) = M := ⟨_, rfl⟩
  rw [hM]
  have hMM := Lib.hid hM
  clear hM
  have hfH := Lib.hid hf; clear hf
  have hgH := Lib.hid hg; clear hg
  have hbH := Lib.hid hb; clear hb
  obtain ⟨hb0, hA, hB, hZ⟩ := boxes3 w (u8s 64 f) (u8s 64 g) (u8s 64 fun _ => 0) 23 23 23
  go_enter Try.func33, Try.ntmps33
  go_wp2_with (first | (refine wpl_alloc_arr rfl 23 rfl _ zPoly ?_) | (refine wpl_load_arr rfl 23 _ rfl _ rfl _ _ hA _ _ uPoly sPoly ?_) | (refine wpl_load_arr rfl 23 _ rfl _ rfl _ _ hB _ _ uPoly sPoly ?_) | (refine wpl_buildSlice_polys rfl 83 23 2 _ rfl Try.underlying83 sPoly zPoly [f, g] rfl (by decide) (by decide) rfl ?_))
  refine (polysCode_lit [f, g] 2 128 rfl rfl (by omega) p _ _ _ (Blk.newAt (by simp) _ _) (by2 hfH.out hgH.out) b hbH.out).mono ?_
  rintro e w1 ⟨rfl, hb1⟩
  have hb2 := below_step hb0 (below_step (below_new _ _) hb1)
  have hA1 := (hA.alloc _).keep hb1
  have hB1 := (hB.alloc _).keep hb1
  have hZ1 := (hZ.alloc _).keep hb1
  clear hA hB hZ hb0 hb1
  cases b
  · go_wp2_with (first | (refine wpl_build_zero rfl 23 64 5 rfl _ uPoly sByte zPoly ?_) | (refine wpl_store_arr rfl 23 _ _ rfl _ rfl _ rfl _ _ hZ1 sPoly rfl (u8s_oneCell _ _) ?_))
    exact bodyPost_ret (res_ct rfl rfl (hZ1.setRow_same (cs := u8s 64 fun _ => 0)) uPoly sPoly rfl) rfl ⟨rfl, below_setRow hb2 (by omega) _⟩
  · have hG := hbH.out.2 rfl
    have hxH := Lib.hid (hG.p64 (f := f) (by simp) hfH.out)
    have hyH := Lib.hid (hG.p64 (f := g) (by simp) hgH.out)
    have hMH := Lib.hid (show Po p M from hMM.out ▸ cmpp_Po (p := p) (by have := hG.1.pos; omega) (mkp 64 g) (mkp 64 f))
    clear hG
    go_upto_region 4 with (fail)
    refine gen_region (ws := w) (w := _) (B := w.heap.size) (by kernel_rfl) (by kernel_rfl) (by kernel_rfl) (by kernel_rfl)
        (fun i => ([fun v _ => v = .int .i64 p, fun v _ => v = .agg (u8s 64 f), fun v w => IsRow w v (mkp 64 f), fun v _ => v = .agg (u8s 64 g), fun v w => IsRow w v (mkp 64 g), fun v w => IsRow w v (M), fun v _ => v = .tuple #[.agg (u8s 64 (toldF M)), .int .i64 (toldC M)], fun v _ => v = .agg (u8s 64 (toldF M)), fun v _ => v = .int .i64 (toldC M), fun _ _ => True, fun v _ => v = .int .i64 (toldC M)] : List (Value → World → Prop)).getD i (fun _ _ => True))
        (fun i => ([true, true, false, true, false, false, false, true, true, true, true] : List Bool).getD i true)
        1 (fun k => [9].getD k 0) (fun k => [7].getD k 0) (fun k => [6].getD k 0) (fun k => [25].getD k 0) (fun k => [w.heap.size + 1 + 1].getD k 0) (fun k => [64].getD k 0) (fun k => [(toldF M)].getD k (fun _ => 0)) (fun k => [(fun _ => 0)].getD k (fun _ => 0)) (fun k => [23].getD k 0) hb2 (Nat.le_refl _)
        (fun w' => Blk w' (w.heap.size) (u8s 64 f) 23 ∧ Blk w' (w.heap.size + 1) (u8s 64 g) 23 ∧ True) ⟨hA1.drew, hB1.drew, trivial⟩ (fun w1 w2 h hb => ⟨h.1.keep hb, h.2.1.keep hb, trivial⟩) ?_ ?_ ?_ ?_ ?_ ?_ ?_
    · intro k hk w1 cs h
      rcases k with _|k
      · exact ⟨h.1.setRow_other (by simp only [List.getD_cons_zero, List.getD_cons_succ] <;> omega), h.2.1.setRow_other (by simp only [List.getD_cons_zero, List.getD_cons_succ] <;> omega), trivial⟩
      · omega
    · intro i v w1 w2 h hb
      rcases i with _|_|_|_|_|_|_|_|_|_|_|i
      · exact h
      · exact h
      · exact (show IsRow w1 v (mkp 64 f) from h).below hb
      · exact h
      · exact (show IsRow w1 v (mkp 64 g) from h).below hb
      · exact (show IsRow w1 v (M) from h).below hb
      · exact h
      · exact h
      · exact h
      · exact h
      · exact h
      · exact h
    · intro k hk
      rcases k with _|k
      · kernel_rfl
      · omega
    · intro k hk
      rcases k with _|k
      · refine ⟨?_, (by kernel_rfl), hZ1, fun v w' h => h, by decide, ?_⟩
        · simp only [List.getD_cons_zero, List.getD_cons_succ] <;> omega
        · intro k' hk' hne
          rcases k' with _|k'
          all_goals first | omega | exact absurd rfl hne | (refine ⟨?_, by decide⟩; simp only [List.getD_cons_zero, List.getD_cons_succ]; omega)
      · omega
    · kernel_rfl
    · intro i o ho hz a w2 hBs hSx hBl hrd hpar
      rcases i with _|_|_|_|_|_|_|_|_|_|_|i
      · obtain rfl := Option.some.inj ho
        have e0 : a.eval (.tmp 0) = .int .i64 p := hpar 0 _ (by kernel_rfl) (by kernel_rfl)
        exact wpv_of (wp_move _ _ rfl e0) (fun _ _ => rfl)
      · obtain rfl := Option.some.inj ho
        exact wpv_of (wp_loadB 23 _ rfl _ (hpar 4 (.pointer (some ⟨w.heap.size, 0, none⟩)) (by kernel_rfl) (by kernel_rfl)) _ _ hSx.1 _ _ uPoly sPoly) (fun _ _ => rfl)
      · obtain rfl := Option.some.inj ho
        obtain ⟨_, e19⟩ : ∃ _w : World, a.eval (.tmp 19) = .agg (u8s 64 f) := (hrd 1 _ 19 rfl rfl (by kernel_rfl) (by kernel_rfl) (by decide)).1
        exact wpv_call 49 [.tmp 19] _ rfl [.agg (u8s 64 f)] (by simp only [List.map_cons, List.map_nil, e19]) Try.call49 (rowOf_any f w2 hfH.out.on)
      · obtain rfl := Option.some.inj ho
        exact wpv_of (wp_loadB 23 _ rfl _ (hpar 5 (.pointer (some ⟨w.heap.size + 1, 0, none⟩)) (by kernel_rfl) (by kernel_rfl)) _ _ hSx.2.1 _ _ uPoly sPoly) (fun _ _ => rfl)
      · obtain rfl := Option.some.inj ho
        obtain ⟨_, e21⟩ : ∃ _w : World, a.eval (.tmp 21) = .agg (u8s 64 g) := (hrd 3 _ 21 rfl rfl (by kernel_rfl) (by kernel_rfl) (by decide)).1
        exact wpv_call 49 [.tmp 21] _ rfl [.agg (u8s 64 g)] (by simp only [List.map_cons, List.map_nil, e21]) Try.call49 (rowOf_any g w2 hgH.out.on)
      · obtain rfl := Option.some.inj ho
        obtain ⟨_, e18⟩ : ∃ _w : World, a.eval (.tmp 18) = .int .i64 p := (hrd 0 _ 18 rfl rfl (by kernel_rfl) (by kernel_rfl) (by decide)).1
        have h20 : (fun v w => IsRow w v (mkp 64 f)) (a.eval (.tmp 20)) w2 := (hrd 2 _ 20 rfl rfl (by kernel_rfl) (by kernel_rfl) (by decide)).2 rfl
        generalize e20 : a.eval (.tmp 20) = v20 at h20
        have h22 : (fun v w => IsRow w v (mkp 64 g)) (a.eval (.tmp 22)) w2 := (hrd 4 _ 22 rfl rfl (by kernel_rfl) (by kernel_rfl) (by decide)).2 rfl
        generalize e22 : a.eval (.tmp 22) = v22 at h22
        exact wpv_call 62 [.tmp 18, .tmp 20, .tmp 22] _ rfl [.int .i64 p, v20, v22] (by simp only [List.map_cons, List.map_nil, e18, e20, e22]) Try.call62 ((compose_any _ _ _ _ p w2 hxH.out.pr h20 h22 hxH.out.po hyH.out.po hxH.out.le hyH.out.le).mono fun _ _ ⟨v, h1, h2, h3⟩ => ⟨v, h1, hMM.out ▸ h2, h3⟩)
      · obtain rfl := Option.some.inj ho
        have h23 : (fun v w => IsRow w v (M)) (a.eval (.tmp 23)) w2 := (hrd 5 _ 23 rfl rfl (by kernel_rfl) (by kernel_rfl) (by decide)).2 rfl
        generalize e23 : a.eval (.tmp 23) = v23 at h23
        exact wpv_call 47 [.tmp 23] _ rfl [v23] (by simp only [List.map_cons, List.map_nil, e23]) Try.call47 ((told_any _ _ w2 h23 (fun i => By_of_Po hxH.out.pr hMH.out i)).mono fun _ _ ⟨h1, h2⟩ => ⟨_, h1, rfl, h2⟩)
      · obtain rfl := Option.some.inj ho
        obtain ⟨_, e24⟩ : ∃ _w : World, a.eval (.tmp 24) = .tuple #[.agg (u8s 64 (toldF M)), .int .i64 (toldC M)] := (hrd 6 _ 24 rfl rfl (by kernel_rfl) (by kernel_rfl) (by decide)).1
        exact wpv_of (wp_extract _ 0 #[.agg (u8s 64 (toldF M)), .int .i64 (toldC M)] _ rfl e24 rfl) (fun _ _ => rfl)
      · obtain rfl := Option.some.inj ho
        obtain ⟨_, e24⟩ : ∃ _w : World, a.eval (.tmp 24) = .tuple #[.agg (u8s 64 (toldF M)), .int .i64 (toldC M)] := (hrd 6 _ 24 rfl rfl (by kernel_rfl) (by kernel_rfl) (by decide)).1
        exact wpv_of (wp_extract _ 1 #[.agg (u8s 64 (toldF M)), .int .i64 (toldC M)] _ rfl e24 rfl) (fun _ _ => rfl)
      · exact absurd rfl (hz 0 (by decide))
      · obtain rfl := Option.some.inj ho
        obtain ⟨_, e26⟩ : ∃ _w : World, a.eval (.tmp 26) = .int .i64 (toldC M) := (hrd 8 _ 26 rfl rfl (by kernel_rfl) (by kernel_rfl) (by decide)).1
        exact wpv_of (wp_assign _ _ rfl e26) (fun _ _ => rfl)
      · simp at ho
    intro vals xE hBx hSx hS0 hcs hrs
    obtain ⟨_, e0⟩ : ∃ _w : World, vals 0 = .int .i64 p := hcs 0 (by simp) (by decide)
    obtain ⟨_, e1⟩ : ∃ _w : World, vals 1 = .agg (u8s 64 f) := hcs 1 (by simp) (by decide)
    obtain ⟨_, e3⟩ : ∃ _w : World, vals 3 = .agg (u8s 64 g) := hcs 3 (by simp) (by decide)
    obtain ⟨_, e6⟩ : ∃ _w : World, vals 6 = .tuple #[.agg (u8s 64 (toldF M)), .int .i64 (toldC M)] := hcs 6 (by simp) (by decide)
    obtain ⟨_, e7⟩ : ∃ _w : World, vals 7 = .agg (u8s 64 (toldF M)) := hcs 7 (by simp) (by decide)
    obtain ⟨_, e8⟩ : ∃ _w : World, vals 8 = .int .i64 (toldC M) := hcs 8 (by simp) (by decide)
    obtain ⟨_, e10⟩ : ∃ _w : World, vals 10 = .int .i64 (toldC M) := hcs 10 (by simp) (by decide)
    have hsE0 : Blk xE (w.heap.size + 1 + 1) (u8s 64 (toldF M)) 23 := hrs 0 (by decide)
    simp only [List.length_cons, List.length_nil, Nat.zero_add, Nat.reduceAdd, List.replicate, putAll, if_true, Act.put, List.setIfInBounds_toArray, List.set_cons_zero, List.set_cons_succ, e0, e1, e3, e6, e7, e8, e10]
    replace hA1 := hSx.1
    replace hB1 := hSx.2.1
    clear hcs hrs hS0 hSx e0 e1 e3 e6 e7 e8 e10
    go_wp2_with fail
    exact bodyPost_ret (res_ct (x := .int .i64 (toldC M)) rfl rfl hsE0 uPoly sPoly rfl) rfl ⟨rfl, hBx⟩

set_option maxRecDepth 20000 in
set_option maxHeartbeats 2000000 in
theorem specComposePolys_any (p : Int) (f : Nat → Int) (g : Nat → Int) (w : World) (hf : By f) (hg : By g) (b : Bool) (hb : Good p [f, g] ↔ b = true) :
    Calls Try.prog 32 #[.int .i64 p, .agg (u8s 64 f), .agg (u8s 64 g)] w fun e w' => e = .returned (.tuple #[.agg (u8s 64 (if b then toldF (cmpp p (mkp 64 g) (mkp 64 f)) else fun _ => 0)), .int .i64 (if b then toldC (cmpp p (mkp 64 g) (mkp 64 f)) else 1)]) ∧ Below w.heap.size w w' := by
  obtain ⟨M, hM⟩ : ∃ M, cmpp p (mkp 64 g) (mkp 64 f) = M := ⟨_, rfl⟩
  rw [hM]
  have hMM := Lib.hid hM
  clear hM
  have hfH := Lib.hid hf; clear hf
  have hgH := Lib.hid hg; clear hg
  have hbH := Lib.hid hb; clear hb
  obtain ⟨hb0, hA, hB, hZ⟩ := boxes3 w (u8s 64 f) (u8s 64 g) (u8s 64 fun _ => 0) 23 23 23
  go_enter Try.func32, Try.ntmps32
  go_wp2_with (first | (refine wpl_alloc_arr rfl 23 rfl _ zPoly ?_) | (refine wpl_load_arr rfl 23 _ rfl _ rfl _ _ hA _ _ uPoly sPoly ?_) | (refine wpl_load_arr rfl 23 _ rfl _ rfl _ _ hB _ _ uPoly sPoly ?_) | (refine wpl_buildSlice_polys rfl 83 23 2 _ rfl Try.underlying83 sPoly zPoly [f, g] rfl (by decide) (by decide) rfl ?_))
  refine (l01Code_lit [f, g] 2 128 rfl rfl (by omega) p _ _ _ (Blk.newAt (by simp) _ _) (by2 hfH.out hgH.out) b hbH.out).mono ?_
  rintro e w1 ⟨rfl, hb1⟩
  have hb2 := below_step hb0 (below_step (below_new _ _) hb1)
  have hA1 := (hA.alloc _).keep hb1
  have hB1 := (hB.alloc _).keep hb1
  have hZ1 := (hZ.alloc _).keep hb1
  clear hA hB hZ hb0 hb1
  cases b
  · go_wp2_with (first | (refine wpl_build_zero rfl 23 64 5 rfl _ uPoly sByte zPoly ?_) | (refine wpl_store_arr rfl 23 _ _ rfl _ rfl _ rfl _ _ hZ1 sPoly rfl (u8s_oneCell _ _) ?_))
    exact bodyPost_ret (res_ct rfl rfl (hZ1.setRow_same (cs := u8s 64 fun _ => 0)) uPoly sPoly rfl) rfl ⟨rfl, below_setRow hb2 (by omega) _⟩
  · have hG := hbH.out.2 rfl
    have hxH := Lib.hid (hG.p64 (f := f) (by simp) hfH.out)
    have hyH := Lib.hid (hG.p64 (f := g) (by simp) hgH.out)
    have hp1 := hG.1.pos.1
    have hp2 := hG.1.pos.2
    have hpz : (p == 0) = false := by rw [beq_eq_false_iff_ne]; omega
    clear hG
    have hdx := fun w => l01Deg_any f w fun i _ => hfH.out i
    have hdy := fun w => l01Deg_any g w fun i _ => hgH.out i
    obtain ⟨xs, hxs⟩ : ∃ xs, mkp 64 f = xs := ⟨_, rfl⟩
    obtain ⟨ys, hys⟩ : ∃ ys, mkp 64 g = ys := ⟨_, rfl⟩
    rw [hxs] at hdx
    rw [hys] at hdy
    obtain ⟨LX, hLX⟩ : ∃ n, xs.length = n := ⟨_, rfl⟩
    obtain ⟨LY, hLY⟩ : ∃ n, ys.length = n := ⟨_, rfl⟩
    rw [hLX] at hdx
    rw [hLY] at hdy
    have hxP := hxH.out
    have hyP := hyH.out
    have hMM2 := hMM.out
    have hfx := u8s_mkp f
    have hgy := u8s_mkp g
    rw [hxs] at hxP hMM2 hfx
    rw [hys] at hyP hMM2 hgy
    have hpt := Lib.hid (fun (x : Int) (w : World) (h0 : 0 ≤ x) (h1 : x < p) => l01Point_any f p x w hxP.pr hfH.out h0 h1)
    have hlx : LX ≤ 64 := hLX ▸ hxP.le
    have hly : LY ≤ 64 := hLY ▸ hyP.le
    have hev := Lib.hid (show ∀ x, ev p x ((List.range 64).map f) = ev p x xs from fun x => by rw [← hxs, mkp, ev_trim])
    have HX := Lib.hid hxP
    have HY := Lib.hid hyP
    have HM := Lib.hid hMM2
    have HL := Lib.hid (And.intro hLX hLY)
    have hfH2 := Lib.hid hfx
    have hgH2 := Lib.hid hgy
    replace hdx := Lib.hid hdx
    replace hdy := Lib.hid hdy
    clear hxs hys hLX hLY hxP hyP hMM2 hfx hgy hMM hxH hyH hbH
    go_upto_region 4 with (fail)
    refine law_region2 (by kernel_rfl) (by kernel_rfl) (by kernel_rfl) (by kernel_rfl)
        (fun i => ([some (.agg (u8s 64 f)), some (.int .i64 ((LX : Int) - 1)), some (.agg (u8s 64 g)), some (.int .i64 ((LY : Int) - 1)), some (.int .i64 ((LX : Int) - 1)), some (.int .i64 ((LY : Int) - 1))] : List (Option Value)).getD i none) 0 (fun k => [].getD k 0) (fun k => [].getD k 0) (fun k => [].getD k 0) (fun k => [].getD k 0) (fun k => [].getD k 0) (fun k => [].getD k 0) (fun k => [].getD k (fun _ => 0)) (fun k => [].getD k 0) ?_ ?_ ?_ ?_ ?_ ?_
    · intro i hi
      rcases i with _|_|_|_|_|_|i
      · exact .inl ⟨_, rfl⟩
      · exact .inl ⟨_, rfl⟩
      · exact .inl ⟨_, rfl⟩
      · exact .inl ⟨_, rfl⟩
      · exact .inl ⟨_, rfl⟩
      · exact .inl ⟨_, rfl⟩
      · simp only [List.length_cons, List.length_nil] at hi; omega
    · intro k hk
      rcases k with k
      · omega
    · intro k hk k' hk'
      rcases k with k
      all_goals rcases k' with k'
      all_goals first | omega | exact ⟨by decide, by decide, by decide⟩
    · intro k hk
      rcases k with k
      · omega
    · intro i o c ho hc a z2 hB hrd hpar
      rcases i with _|_|_|_|_|_|i
      · obtain rfl := Option.some.inj ho
        obtain rfl := Option.some.inj hc
        exact wp_loadB 23 _ rfl _ (hpar 4 (.pointer (some ⟨w.heap.size, 0, none⟩)) (by kernel_rfl) (by kernel_rfl)) _ _ (hA1.keep hB) _ _ uPoly sPoly
      · obtain rfl := Option.some.inj ho
        obtain rfl := Option.some.inj hc
        exact wp_callB 56 [.tmp 24] _ rfl [.agg (u8s 64 f)] (by simp only [List.map_cons, List.map_nil, (hrd 0 _ _ 24 rfl rfl rfl (by kernel_rfl) (by kernel_rfl))]) Try.call56 _ (hdx.out z2)
      · obtain rfl := Option.some.inj ho
        obtain rfl := Option.some.inj hc
        exact wp_loadB 23 _ rfl _ (hpar 5 (.pointer (some ⟨w.heap.size + 1, 0, none⟩)) (by kernel_rfl) (by kernel_rfl)) _ _ (hB1.keep hB) _ _ uPoly sPoly
      · obtain rfl := Option.some.inj ho
        obtain rfl := Option.some.inj hc
        exact wp_callB 56 [.tmp 26] _ rfl [.agg (u8s 64 g)] (by simp only [List.map_cons, List.map_nil, (hrd 2 _ _ 26 rfl rfl rfl (by kernel_rfl) (by kernel_rfl))]) Try.call56 _ (hdy.out z2)
      · obtain rfl := Option.some.inj ho
        obtain rfl := Option.some.inj hc
        exact wp_assign _ (.int .i64 ((LX : Int) - 1)) rfl (hrd 1 _ _ 25 rfl rfl rfl (by kernel_rfl) (by kernel_rfl))
      · obtain rfl := Option.some.inj ho
        obtain rfl := Option.some.inj hc
        exact wp_assign _ (.int .i64 ((LY : Int) - 1)) rfl (hrd 3 _ _ 27 rfl rfl rfl (by kernel_rfl) (by kernel_rfl))
      · cases hc
    intro vals xT hB hc hr
    have e0 : vals 0 = .agg (u8s 64 f) := hc 0 _ (by simp) rfl
    have e1 : vals 1 = .int .i64 ((LX : Int) - 1) := hc 1 _ (by simp) rfl
    have e2 : vals 2 = .agg (u8s 64 g) := hc 2 _ (by simp) rfl
    have e3 : vals 3 = .int .i64 ((LY : Int) - 1) := hc 3 _ (by simp) rfl
    have e4 : vals 4 = .int .i64 ((LX : Int) - 1) := hc 4 _ (by simp) rfl
    have e5 : vals 5 = .int .i64 ((LY : Int) - 1) := hc 5 _ (by simp) rfl
    simp only [List.length_cons, List.length_nil, Nat.zero_add, Nat.reduceAdd, List.replicate, putAll, if_true, Act.put, List.setIfInBounds_toArray, List.set_cons_zero, List.set_cons_succ, e0, e1, e2, e3, e4, e5]
    replace hA1 := hA1.keep hB
    replace hB1 := hB1.keep hB
    replace hZ1 := hZ1.keep hB
    replace hb2 := below_step hb2 hB
    clear hc hr e0 e1 e2 e3 e4 e5
    clear hB
    rw [hfH2.out] at hA1
    rw [hgH2.out] at hB1
    by_cases h1 : LX = 0
    · have h1i : (LX : Int) - 1 < 0 := by omega
      have hend := Lib.hid (show Ending.returned (.tuple #[.agg (u8s 64 fun _ => 0), .int .i64 0]) = .returned (.tuple #[.agg (u8s 64 (toldF M)), .int .i64 (toldC M)]) by
        have : xs = [] := List.length_eq_zero_iff.1 (HL.out.1.trans h1)
        rw [← HM.out, this]; show _ = Ending.returned (.tuple #[.agg (u8s 64 (toldF [])), .int .i64 (toldC [])]); rw [toldF_nil]; rfl)
      clear h1
      go_wp2_with ((with_reducible refine wpl_guard ?_); first | (refine wpl_build_zero rfl 23 64 5 rfl _ uPoly sByte zPoly ?_) | (refine wpl_store_arr rfl 23 _ _ rfl _ rfl _ rfl _ _ hZ1 sPoly (by simp only [u8s_size]) (u8s_oneCell _ _) ?_))
      exact bodyPost_ret (res_ct (x := .int .i64 0) rfl rfl (hZ1.setRow_same (cs := u8s 64 fun _ => 0)) uPoly sPoly rfl) rfl ⟨hend.out, below_setRow hb2 (by omega) _⟩
    have h1i : ¬ (LX : Int) - 1 < 0 := by omega
    by_cases h2 : LY ≤ 1
    · have h2i : (LY : Int) - 1 ≤ 0 := by omega
      have c0 : xT.cell? ⟨w.heap.size + 1, 0, none⟩ = some (.int .u8 (cf ys 0)) := by rw [hB1.cell, u8s_get _ (by decide)]
      have hy0 := (HY.out.rng 0).1
      have hy1 := (HY.out.rng 0).2
      have hyp := (HY.out.po.md 0).2
      have hb := ev_bounds p (cf ys 0) (by omega) xs
      have hend := Lib.hid (show ∀ v, v = ev p (cf ys 0) xs → Ending.returned (.tuple #[.agg (u8s 64 fun j => if j = 0 then v else 0), .int .i64 0]) = .returned (.tuple #[.agg (u8s 64 (toldF M)), .int .i64 (toldC M)]) from fun v hv => by
        have hs := cmpp_short HX.out.pr (ys := ys) (by rw [HL.out.2]; exact h2) xs
        rw [HM.out] at hs
        have hP : Po p M := HM.out ▸ cmpp_Po (by omega) ys xs
        have hl := Tr_length_le hP.tr (n := 1) fun i hi => by rw [hs i, if_neg (by omega)]
        have he : u8s 64 (fun j => if j = 0 then v else 0) = u8s 64 (cf M) := u8s_ext fun i _ => by rw [hs i, evl_ev, hv]
        rw [show toldF M = cf M from if_pos (by omega), show toldC M = 0 from if_pos (by omega), he])
      have hptv := hpt.out (cf ys 0)
      have hee := hev.out (cf ys 0)
      rw [hee] at hptv
      have hptH := Lib.hid hptv
      clear hptv hee hev hpt h1 h2
      generalize hve : ev p (cf ys 0) xs = v at *
      have hv0 := hb.1
      have hv1 := hb.2
      rw [← hfH2.out] at hA1
      clear hve hb
      go_wp2_with ((with_reducible refine wpl_guard ?_); first | (refine wpl_load_arr rfl 23 _ rfl _ rfl _ _ hA1 _ _ uPoly sPoly ?_))
      refine (hptH.out _ hy0 hyp).mono ?_
      rintro e w3 ⟨rfl, hn⟩
      replace hB1 := hB1.keep hn
      replace hZ1 := hZ1.keep hn
      replace hb2 := below_step hb2 hn
      clear hn
      clear c0
      go_wp2_with ((with_reducible refine wpl_guard ?_); first | (refine wpl_build_one rfl 23 64 5 _ rfl v rfl (by decide) uPoly sByte zPoly ?_) | (refine wpl_store_arr rfl 23 _ _ rfl _ rfl _ rfl _ _ hZ1 sPoly (by simp only [u8s_size]) (u8s_oneCell _ _) ?_))
      exact bodyPost_ret (res_ct (x := .int .i64 0) rfl rfl (hZ1.setRow_same (cs := u8s 64 fun j => if j = 0 then v else 0)) uPoly sPoly rfl) rfl ⟨hend.out v rfl, below_setRow hb2 (by omega) _⟩
    have h2i : ¬ (LY : Int) - 1 ≤ 0 := by omega
    obtain ⟨N, rfl⟩ : ∃ N, LX = N + 1 := ⟨LX - 1, by omega⟩
    obtain ⟨K, rfl⟩ : ∃ K, LY = K + 1 := ⟨LY - 1, by omega⟩
    have hNi : ((N + 1 : Nat) : Int) - 1 = (N : Int) := by omega
    have hKi : ((K + 1 : Nat) : Int) - 1 = (K : Int) := by omega
    have hlen := cmpp_length HX.out.pr HY.out.po (by have := HL.out.2; omega) xs HX.out.po (fun e => by have := HL.out.1; rw [e] at this; simp at this)
    rw [HL.out.1, HL.out.2, HM.out, Nat.add_sub_cancel, Nat.add_sub_cancel] at hlen
    have hprod0 : 0 ≤ (N : Int) * (K : Int) := Int.mul_nonneg (by omega) (by omega)
    have hprod1 : (N : Int) * (K : Int) ≤ 4096 := by
      have h5 : N * K ≤ 64 * 64 := Nat.mul_le_mul (by omega) (by omega)
      have h6 : ((N * K : Nat) : Int) ≤ 4096 := by omega
      rwa [Int.natCast_mul] at h6
    by_cases h3 : N * K ≤ 63
    · have h3i : ¬ 63 < (N : Int) * (K : Int) := by have h6 : ((N * K : Nat) : Int) ≤ 63 := by omega
                                                    rw [Int.natCast_mul] at h6; omega
      have hend := Lib.hid (show Ending.returned (.tuple #[.agg (u8s 64 (cf M)), .int .i64 0]) = .returned (.tuple #[.agg (u8s 64 (toldF M)), .int .i64 (toldC M)]) by
        rw [show toldF M = cf M from if_pos (by omega), show toldC M = 0 from if_pos (by omega)])
      have h3H := Lib.hid h3
      have hHN := Lib.hid hNi
      clear hlen h3 h1 h2 hpt hev
      go_upto_region 12 with ((with_reducible refine wpl_guard ?_); first | (refine wpl_alloc_arr rfl 23 rfl _ zPoly ?_) | (refine wpl_build_zero rfl 23 64 5 rfl _ uPoly sByte zPoly ?_) | (refine wpl_store_new rfl 23 _ _ rfl _ rfl rfl _ rfl sPoly rfl (u8s_oneCell _ _) ?_))
      have hN := Blk.new xT (u8s 64 fun _ => 0) 23
      have hgx : w.heap.size + 1 + 1 < xT.heap.size := hZ1.lt
      replace hA1 := hA1.alloc (.cells (u8s 64 fun _ => 0) 23)
      replace hB1 := hB1.alloc (.cells (u8s 64 fun _ => 0) 23)
      replace hZ1 := hZ1.alloc (.cells (u8s 64 fun _ => 0) 23)
      replace hb2 := below_step hb2 (below_new xT (.cells (u8s 64 fun _ => 0) 23))
      generalize xT.heap.size = gN at *
      go_wp2_with fail
      go_loopw [12] (fun i wr => ∃ k : Nat, k ≤ N + 1 ∧ i = .int .i64 ((k : Int) - 1) ∧ Blk wr w.heap.size (u8s 64 (cf xs)) 23 ∧ Blk wr (w.heap.size + 1) (u8s 64 (cf ys)) 23 ∧ Blk wr (w.heap.size + 1 + 1) (u8s 64 fun _ => 0) 23 ∧ Blk wr gN (u8s 64 (cf (cmpp p ys (xs.drop k)))) 23 ∧ Below w.heap.size w wr) (fun i _ => (intOf i + 1).toNat)
      case atStart => exact ⟨N + 1, Nat.le_refl _, by rw [hHN.out], hA1, hB1, hZ1, hN.cast (u8s_ext fun i _ => by rw [← HL.out.1, List.drop_length]; exact (cf_nil i).symm), hb2⟩
      case round =>
        clear hA1 hB1 hZ1 hN hb2
        obtain ⟨k, hk, hi, hA1, hB1, hZ1, hN, hb2⟩ := hrel
        by_cases h0 : k = 0
        · subst h0
          simp only [Int.natCast_zero, Int.zero_sub] at hi
          subst hi
          rw [List.drop_zero, HM.out] at hN
          go_wp2_with ((with_reducible refine wpl_guard ?_); first | (refine wpl_load_arr rfl 23 _ rfl _ rfl _ _ hN _ _ uPoly sPoly ?_) | (refine wpl_store_arr rfl 23 _ _ rfl _ rfl _ rfl _ _ hZ1 sPoly (by simp only [u8s_size]) (u8s_oneCell _ _) ?_))
          exact bodyPost_ret (res_ct (x := .int .i64 0) rfl rfl (hZ1.setRow_same (cs := u8s 64 (cf M))) uPoly sPoly rfl) rfl ⟨hend.out, below_setRow hb2 (by omega) _⟩
        · obtain ⟨m, rfl⟩ : ∃ m, k = m + 1 := ⟨k - 1, by omega⟩
          rw [show (((m + 1 : Nat) : Int) - 1) = (m : Int) by omega] at hi
          subst hi
          have hlm : m < xs.length := by have := HL.out.1; omega
          have hCP := cmpp_Po (p := p) (by omega) ys (xs.drop (m + 1))
          have hCl : (mulp p (cmpp p ys (xs.drop (m + 1))) ys).length ≤ 64 ∧ (cmpp p ys (xs.drop (m + 1))).length ≤ 64 := by
            by_cases hd : xs.drop (m + 1) = []
            · rw [hd]; show (mulp p [] ys).length ≤ 64 ∧ ([] : List Int).length ≤ 64; rw [mulp_nil]; simp
            · have h5 := cmpp_length HX.out.pr HY.out.po (by have := HL.out.2; omega) _ (Po_drop (by omega) HX.out.po (m + 1)) hd
              rw [List.length_drop, HL.out.1, HL.out.2, Nat.add_sub_cancel] at h5
              have h6 := mulp_length HX.out.pr hCP HY.out.po (fun e => by rw [e] at h5; simp at h5) (fun e => by have := HL.out.2; rw [e] at this; simp at this)
              rw [HL.out.2] at h6
              have h7 : (N + 1 - (m + 1) - 1) * K + K ≤ N * K := by
                have h8 : ((N + 1 - (m + 1) - 1) + 1) * K ≤ N * K := Nat.mul_le_mul_right _ (by
                  have : 0 < (xs.drop (m + 1)).length := List.length_pos_iff.2 hd
                  rw [List.length_drop, HL.out.1] at this; omega)
                rwa [Nat.add_mul, Nat.one_mul] at h8
              have := h3H.out
              omega
          have ht := fun w => l01Times_in _ ys p w ⟨HX.out.pr, hCP, hCl.2⟩ HY.out hCl.1
          have hst := cmpp_drop p ys xs m hlm
          obtain ⟨Cn, hCn⟩ : ∃ c, cmpp p ys (xs.drop (m + 1)) = c := ⟨_, rfl⟩
          rw [hCn] at ht hst hN
          have hMP := mulp_Po (p := p) (by omega) Cn ys
          obtain ⟨Mn, hMn⟩ : ∃ c, mulp p Cn ys = c := ⟨_, rfl⟩
          rw [hMn] at ht hst hMP
          have hstH := Lib.hid (show ∀ i, (if i = 0 then (cf Mn 0 + cf xs m) % p else cf Mn i) = cf (cmpp p ys (xs.drop m)) i from fun i => by
            rw [hst, addp_cf, one_cf]
            by_cases e : i = 0
            · rw [if_pos e, if_pos e, e]; congr 1; omega
            · rw [if_neg e, if_neg e, Int.mul_zero, Int.add_zero, Int.emod_eq_of_lt (hMP.md i).1 (hMP.md i).2])
          have htH := Lib.hid ht
          have hm0 := (cf_lt7 HX.out.pr hMP.md 0).1
          have hm1 := (cf_lt7 HX.out.pr hMP.md 0).2
          have hx0 := (HX.out.rng m).1
          have hx1 := (HX.out.rng m).2
          have hm64 : (m : Int) < 64 := by omega
          have hmge : ¬ (m : Int) < 0 := by omega
          have hrange := addF_range HX.out.pr (cf Mn 0 + cf xs m)
          have hr0 := hrange.1
          have hr1 := hrange.2
          clear hCP hCl ht hst hCn hMP hMn hlm hrange
          go_wp2_with ((with_reducible refine wpl_guard ?_); first | (refine wpl_load_arr rfl 23 _ rfl _ rfl _ _ hN _ _ uPoly sPoly ?_) | (refine wpl_load_arr rfl 23 _ rfl _ rfl _ _ hB1 _ _ uPoly sPoly ?_))
          refine (htH.out _).mono ?_
          rintro e w8 ⟨rfl, hn⟩
          replace hA1 := hA1.keep hn
          replace hB1 := hB1.keep hn
          replace hZ1 := hZ1.keep hn
          replace hN := hN.keep hn
          replace hb2 := below_step hb2 hn
          clear hn
          have hg8 : gN < w8.heap.size := hN.lt
          go_upto_region 16 with ((with_reducible refine wpl_guard ?_); first | (refine wpl_new1 23 zPoly sPoly _ _ rfl rfl rfl rfl rfl rfl _ rfl ?_; intro w9 hn hM9; replace hA1 := hA1.keep hn; replace hB1 := hB1.keep hn; replace hZ1 := hZ1.keep hn; replace hN := hN.keep hn; replace hb2 := below_step hb2 hn; clear hn))
          have c0 : w9.cell? ⟨w8.heap.size, 0, none⟩ = some (.int .u8 (cf Mn 0)) := by rw [hM9.cell, u8s_get _ (by decide)]
          have c0f := hM9.free 0
          have c1 : w9.cell? ⟨w.heap.size, m, none⟩ = some (.int .u8 (cf xs m)) := by rw [hA1.cell, u8s_get _ (by omega)]
          go_region
          go_upto_region 17 with (fail)
          have hq : (u8s 64 (cf Mn)).setIfInBounds 0 (.int .u8 ((cf Mn 0 + cf xs m) % p)) = u8s 64 (cf (cmpp p ys (xs.drop m))) := by
            rw [u8s_set]; exact u8s_ext fun i _ => hstH.out i
          replace hA1 := (hA1.set_other ⟨w8.heap.size, 0, none⟩ (.int .u8 ((cf Mn 0 + cf xs m) % p)) (by simp; omega)).drew
          replace hB1 := (hB1.set_other ⟨w8.heap.size, 0, none⟩ (.int .u8 ((cf Mn 0 + cf xs m) % p)) (by simp; omega)).drew
          replace hZ1 := (hZ1.set_other ⟨w8.heap.size, 0, none⟩ (.int .u8 ((cf Mn 0 + cf xs m) % p)) (by simp; omega)).drew
          replace hN := (hN.set_other ⟨w8.heap.size, 0, none⟩ (.int .u8 ((cf Mn 0 + cf xs m) % p)) (by simp; omega)).drew
          replace hM9 := ((hM9.set 0 (.int .u8 ((cf Mn 0 + cf xs m) % p))).cast hq).drew
          replace hb2 := (hb2.setCell (a := w) (by simp; omega : w.heap.size ≤ (⟨w8.heap.size, 0, none⟩ : Addr).block) (.int .u8 ((cf Mn 0 + cf xs m) % p))).drew
          clear c0 c0f c1 hq
          refine wp_copy (s := 74) 23 rfl rfl (.tmp 13) (.tmp 11) rfl rfl rfl rfl hM9 hN (by kernel_rfl) (by kernel_rfl) (by kernel_rfl) uPoly sPoly ?_
          intro w10 hN9 hk9 hB9
          replace hA1 := hk9 _ _ _ (by omega) hA1
          replace hB1 := hk9 _ _ _ (by omega) hB1
          replace hZ1 := hk9 _ _ _ (by omega) hZ1
          replace hb2 := hB9 _ _ hb2 (by omega)
          have hkm := Lib.hid (show m ≤ N + 1 by omega)
          clear hk9 hB9 hM9 hN hk
          simp only [Act.put, List.setIfInBounds_toArray, List.set_cons_zero, List.set_cons_succ]
          go_wp2_with fail
          go_roundw
          case rel => exact ⟨m, hkm.out, by go_num, hA1, hB1, hZ1, hN9, hb2⟩
          case measure => simp [intOf] <;> omega
    · have h3i : 63 < (N : Int) * (K : Int) := by have h6 : (64 : Int) ≤ ((N * K : Nat) : Int) := by omega
                                                  rw [Int.natCast_mul] at h6; omega
      have hend := Lib.hid (show Ending.returned (.tuple #[.agg (u8s 64 fun _ => 0), .int .i64 3]) = .returned (.tuple #[.agg (u8s 64 (toldF M)), .int .i64 (toldC M)]) by
        rw [show toldF M = fun _ => 0 from if_neg (by omega), show toldC M = 3 from if_neg (by omega)])
      clear hlen h3 h1 h2 hpt hev
      go_wp2_with ((with_reducible refine wpl_guard ?_); first | (refine wpl_build_zero rfl 23 64 5 rfl _ uPoly sByte zPoly ?_) | (refine wpl_store_arr rfl 23 _ _ rfl _ rfl _ rfl _ _ hZ1 sPoly (by simp only [u8s_size]) (u8s_oneCell _ _) ?_))
      exact bodyPost_ret (res_ct (x := .int .i64 3) rfl rfl (hZ1.setRow_same (cs := u8s 64 fun _ => 0)) uPoly sPoly rfl) rfl ⟨hend.out, below_setRow hb2 (by omega) _⟩
theorem ComposePolys_pair (p : Int) (f : Nat → Int) (g : Nat → Int) (_ : (Lit.int .i64 p).wf = true) (hf : By f) (hg : By g) : ∃ (r0 : (Nat → Int)) (r1 : Int),
    (∀ w, Calls Try.prog 32 #[.int .i64 p, .agg (u8s 64 f), .agg (u8s 64 g)] w fun e w' => e = .returned (.tuple #[.agg (u8s 64 r0), .int .i64 r1]) ∧ Below w.heap.size w w') ∧
    (∀ w, Calls Try.prog 33 #[.int .i64 p, .agg (u8s 64 f), .agg (u8s 64 g)] w fun e w' => e = .returned (.tuple #[.agg (u8s 64 r0), .int .i64 r1]) ∧ Below w.heap.size w w') := by
  obtain ⟨b, hb⟩ := dec_true (Good p [f, g])
  exact ⟨_, _, fun w => specComposePolys_any p f g w hf hg b hb, fun w => implComposePolys_any p f g w hf hg b hb⟩
end Go.Proofs.Ythkkicanockhgaa

/- Walks: products and divisions of polynomials on both sides. -/
import Derived.Test.YthkkicanockhgaaS3
import Derived.Test.YthkkicanockhgaaC1
namespace Go.Proofs.Ythkkicanockhgaa
open Go.RowKit

theorem Good.p64 {p : Int} {fs : List (Nat → Int)} (h : Good p fs) {f : Nat → Int} (hm : f ∈ fs) (hf : By f) : P64 p (mkp 64 f) := ⟨h.1, h.md hm hf, mkp_length 64 f⟩
theorem u8s_mkp (f : Nat → Int) : u8s 64 f = u8s 64 (cf (mkp 64 f)) := u8s_ext fun i hi => by rw [mkp_cf, if_pos hi]
theorem l01Times_arr (f g : Nat → Int) (p : Int) (w : World) (hx : P64 p (mkp 64 f)) (hy : P64 p (mkp 64 g)) :
    Calls Try.prog 50 #[.int .i64 p, .agg (u8s 64 f), .agg (u8s 64 g)] w fun e w' => e = .returned (.tuple #[.agg (u8s 64 (toldF (mulp p (mkp 64 f) (mkp 64 g)))), .bool (decide ((mulp p (mkp 64 f) (mkp 64 g)).length ≤ 64))]) ∧ Below w.heap.size w w' := by
  rw [u8s_mkp f, u8s_mkp g]; exact l01Times_any _ _ p w hx hy

set_option maxRecDepth 20000 in
set_option maxHeartbeats 2000000 in
theorem specMultiplyPolys_any (p : Int) (f : Nat → Int) (g : Nat → Int) (w : World) (hf : By f) (hg : By g) (b : Bool) (hb : Good p [f, g] ↔ b = true) :
    Calls Try.prog 21 #[.int .i64 p, .agg (u8s 64 f), .agg (u8s 64 g)] w fun e w' => e = .returned (.tuple #[.agg (u8s 64 (if b then toldF (mulp p (mkp 64 f) (mkp 64 g)) else fun _ => 0)), .int .i64 (if b then toldC (mulp p (mkp 64 f) (mkp 64 g)) else 1)]) ∧ Below w.heap.size w w' := by
  obtain ⟨M, hM⟩ : ∃ M, mulp p (mkp 64 f) (mkp 64 g) = M := ⟨_, rfl⟩
  rw [hM]
  have hMM := Lib.hid hM
  clear hM
  have hfH := Lib.hid hf; clear hf
  have hgH := Lib.hid hg; clear hg
  have hbH := Lib.hid hb; clear hb
  obtain ⟨hb0, hA, hB, hZ⟩ := boxes3 w (u8s 64 f) (u8s 64 g) (u8s 64 fun _ => 0) 23 23 23
  go_enter Try.func21, Try.ntmps21
  go_wp2_with (first | (refine wpl_alloc_arr rfl 23 rfl _ zPoly ?_) | (refine wpl_load_arr rfl 23 _ rfl _ rfl _ _ hA _ _ uPoly sPoly ?_) | (refine wpl_load_arr rfl 23 _ rfl _ rfl _ _ hB _ _ uPoly sPoly ?_) | (refine wpl_buildSlice_polys rfl 83 23 2 _ rfl Try.underlying83 sPoly zPoly [f, g] rfl (by decide) (by decide) rfl ?_))
  refine (l01Code_lit [f, g] 2 128 rfl rfl (by omega) p _ _ _ (Blk.newAt (by simp) _ _) (by2 hfH.out hgH.out) b hbH.out).mono ?_
  rintro e w1 ⟨rfl, hb1⟩
  have hb2 := below_step hb0 (below_step (below_new _ _) hb1)
  have hA1 := (hA.alloc _).keep hb1
  have hB1 := (hB.alloc _).keep hb1
  have hZ1 := (hZ.alloc _).keep hb1
  clear hA hB hZ hb0 hb1
  cases b
  · go_wp2_with (first | (refine wpl_build_zero rfl 23 64 5 rfl _ uPoly sByte zPoly ?_) | (refine wpl_store_arr rfl 23 _ _ rfl _ rfl _ rfl _ _ hZ1 sPoly rfl (u8s_oneCell _ _) ?_))
    exact bodyPost_ret (res_ct rfl rfl (hZ1.setRow_same (cs := u8s 64 fun _ => 0)) uPoly sPoly rfl) rfl ⟨rfl, below_setRow hb2 (by omega) _⟩
  · have hG := hbH.out.2 rfl
    have hT := fun w => l01Times_arr f g p w (hG.p64 (by simp) hfH.out) (hG.p64 (by simp) hgH.out)
    rw [hMM.out] at hT
    replace hT := Lib.hid hT
    clear hG
    by_cases hL : M.length ≤ 64
    all_goals
      have hLH := Lib.hid hL
      first | rw [decide_eq_true hL] at hT | rw [decide_eq_false hL] at hT
      clear hL
      go_wp2_with (first | (refine wpl_load_arr rfl 23 _ rfl _ rfl _ _ hA1 _ _ uPoly sPoly ?_) | (refine wpl_load_arr rfl 23 _ rfl _ rfl _ _ hB1 _ _ uPoly sPoly ?_))
      refine (hT.out _).mono ?_
      rintro e w2 ⟨rfl, hb3⟩
      have hZ2 := (hZ1.keep hb3).alloc (.cells (u8s 64 (toldF M)) 23)
      have hN2 := Blk.new w2 (u8s 64 (toldF M)) 23
      have hb4 := below_step (below_step hb2 hb3) (below_new w2 (.cells (u8s 64 (toldF M)) 23))
      clear hA1 hB1 hZ1 hb2 hb3
    · go_wp2_with (first | (refine wpl_alloc_arr rfl 23 rfl _ zPoly ?_) | (refine wpl_store_new rfl 23 _ _ rfl _ rfl rfl _ rfl sPoly (by simp only [u8s_size]) (u8s_oneCell _ _) ?_) | (refine wpl_load_arr rfl 23 _ rfl _ rfl _ _ hN2 _ _ uPoly sPoly ?_) | (refine wpl_store_arr rfl 23 _ _ rfl _ rfl _ rfl _ _ hZ2 sPoly (by simp only [u8s_size]) (u8s_oneCell _ _) ?_))
      exact bodyPost_ret (res_ct (x := .int .i64 0) rfl rfl (hZ2.setRow_same (cs := u8s 64 (toldF M))) uPoly sPoly rfl) rfl ⟨by rw [show toldC M = 0 from if_pos hLH.out], below_setRow hb4 (by omega) _⟩
    · go_wp2_with (first | (refine wpl_build_zero rfl 23 64 5 rfl _ uPoly sByte zPoly ?_) | (refine wpl_alloc_arr rfl 23 rfl _ zPoly ?_) | (refine wpl_store_new rfl 23 _ _ rfl _ rfl rfl _ rfl sPoly (by simp only [u8s_size]) (u8s_oneCell _ _) ?_) | (refine wpl_store_arr rfl 23 _ _ rfl _ rfl _ rfl _ _ hZ2 sPoly (by simp only [u8s_size]) (u8s_oneCell _ _) ?_))
      exact bodyPost_ret (res_ct (x := .int .i64 3) rfl rfl (hZ2.setRow_same (cs := u8s 64 fun _ => 0)) uPoly sPoly rfl) rfl ⟨by rw [show toldC M = 3 from if_neg hLH.out, show toldF M = fun _ => 0 from if_neg hLH.out], below_setRow hb4 (by omega) _⟩

set_option maxRecDepth 20000 in
set_option maxHeartbeats 2000000 in
theorem implMultiplyPolys_any (p : Int) (f : Nat → Int) (g : Nat → Int) (w : World) (hf : By f) (hg : By g) (b : Bool) (hb : Good p [f, g] ↔ b = true) :
    Calls Try.prog 22 #[.int .i64 p, .agg (u8s 64 f), .agg (u8s 64 g)] w fun e w' => e = .returned (.tuple #[.agg (u8s 64 (if b then toldF (mulp p (mkp 64 f) (mkp 64 g)) else fun _ => 0)), .int .i64 (if b then toldC (mulp p (mkp 64 f) (mkp 64 g)) else 1)]) ∧ Below w.heap.size w w' := by
  obtain ⟨M, hM⟩ : ∃ M, mulp p (mkp 64 f) (mkp 64 g) = M := ⟨_, rfl⟩
  rw [hM]
  have hMM := Lib.hid hM
  clear hM
  have hfH := Lib.hid hf; clear hf
  have hgH := Lib.hid hg; clear hg
  have hbH := Lib.hid hb; clear hb
  obtain ⟨hb0, hA, hB, hZ⟩ := boxes3 w (u8s 64 f) (u8s 64 g) (u8s 64 fun _ => 0) 23 23 23
  go_enter Try.func22, Try.ntmps22
  go_wp2_with (first | (refine wpl_alloc_arr rfl 23 rfl _ zPoly ?_) | (refine wpl_load_arr rfl 23 _ rfl _ rfl _ _ hA _ _ uPoly sPoly ?_) | (refine wpl_load_arr rfl 23 _ rfl _ rfl _ _ hB _ _ uPoly sPoly ?_) | (refine wpl_buildSlice_polys rfl 83 23 2 _ rfl Try.underlying83 sPoly zPoly [f, g] rfl (by decide) (by decide) rfl ?_))
  refine (polysCode_lit [f, g] 2 128 rfl rfl (by omega) p _ _ _ (Blk.newAt (by simp) _ _) (by2 hfH.out hgH.out) b hbH.out).mono ?_
  rintro e w1 ⟨rfl, hb1⟩
  have hb2 := below_step hb0 (below_step (below_new _ _) hb1)
  have hA1 := (hA.alloc _).keep hb1
  have hB1 := (hB.alloc _).keep hb1
  have hZ1 := (hZ.alloc _).keep hb1
  clear hA hB hZ hb0 hb1
  cases b
  · go_wp2_with (first | (refine wpl_build_zero rfl 23 64 5 rfl _ uPoly sByte zPoly ?_) | (refine wpl_store_arr rfl 23 _ _ rfl _ rfl _ rfl _ _ hZ1 sPoly rfl (u8s_oneCell _ _) ?_))
    exact bodyPost_ret (res_ct rfl rfl (hZ1.setRow_same (cs := u8s 64 fun _ => 0)) uPoly sPoly rfl) rfl ⟨rfl, below_setRow hb2 (by omega) _⟩
  · have hG := hbH.out.2 rfl
    have hxH := Lib.hid (hG.p64 (f := f) (by simp) hfH.out)
    have hyH := Lib.hid (hG.p64 (f := g) (by simp) hgH.out)
    have hMH := Lib.hid (show Po p M from hMM.out ▸ mulp_Po (p := p) (by have := hG.1.pos; omega) (mkp 64 f) (mkp 64 g))
    clear hG
    go_upto_region 4 with (fail)
    refine gen_region (ws := w) (w := _) (B := w.heap.size) (by kernel_rfl) (by kernel_rfl) (by kernel_rfl) (by kernel_rfl)
        (fun i => ([fun v _ => v = .int .i64 p, fun v _ => v = .agg (u8s 64 f), fun v w => IsRow w v (mkp 64 f), fun v _ => v = .agg (u8s 64 g), fun v w => IsRow w v (mkp 64 g), fun v w => IsRow w v (M), fun v _ => v = .tuple #[.agg (u8s 64 (toldF M)), .int .i64 (toldC M)], fun v _ => v = .agg (u8s 64 (toldF M)), fun v _ => v = .int .i64 (toldC M), fun _ _ => True, fun v _ => v = .int .i64 (toldC M)] : List (Value → World → Prop)).getD i (fun _ _ => True))
        (fun i => ([true, true, false, true, false, false, false, true, true, true, true] : List Bool).getD i true)
        1 (fun k => [9].getD k 0) (fun k => [7].getD k 0) (fun k => [6].getD k 0) (fun k => [25].getD k 0) (fun k => [w.heap.size + 1 + 1].getD k 0) (fun k => [64].getD k 0) (fun k => [(toldF M)].getD k (fun _ => 0)) (fun k => [(fun _ => 0)].getD k (fun _ => 0)) (fun k => [23].getD k 0) hb2 (Nat.le_refl _)
        (fun w' => Blk w' (w.heap.size) (u8s 64 f) 23 ∧ Blk w' (w.heap.size + 1) (u8s 64 g) 23 ∧ True) ⟨hA1.drew, hB1.drew, trivial⟩ (fun w1 w2 h hb => ⟨h.1.keep hb, h.2.1.keep hb, trivial⟩) ?_ ?_ ?_ ?_ ?_ ?_ ?_
    · intro k hk w1 cs h
      rcases k with _|k
      · exact ⟨h.1.setRow_other (by simp only [List.getD_cons_zero, List.getD_cons_succ] <;> omega), h.2.1.setRow_other (by simp only [List.getD_cons_zero, List.getD_cons_succ] <;> omega), trivial⟩
      · omega
    · intro i v w1 w2 h hb
      rcases i with _|_|_|_|_|_|_|_|_|_|_|i
      · exact h
      · exact h
      · exact (show IsRow w1 v (mkp 64 f) from h).below hb
      · exact h
      · exact (show IsRow w1 v (mkp 64 g) from h).below hb
      · exact (show IsRow w1 v (M) from h).below hb
      · exact h
      · exact h
      · exact h
      · exact h
      · exact h
      · exact h
    · intro k hk
      rcases k with _|k
      · kernel_rfl
      · omega
    · intro k hk
      rcases k with _|k
      · refine ⟨?_, (by kernel_rfl), hZ1, fun v w' h => h, by decide, ?_⟩
        · simp only [List.getD_cons_zero, List.getD_cons_succ] <;> omega
        · intro k' hk' hne
          rcases k' with _|k'
          all_goals first | omega | exact absurd rfl hne | (refine ⟨?_, by decide⟩; simp only [List.getD_cons_zero, List.getD_cons_succ]; omega)
      · omega
    · kernel_rfl
    · intro i o ho hz a w2 hBs hSx hBl hrd hpar
      rcases i with _|_|_|_|_|_|_|_|_|_|_|i
      · obtain rfl := Option.some.inj ho
        have e0 : a.eval (.tmp 0) = .int .i64 p := hpar 0 _ (by kernel_rfl) (by kernel_rfl)
        exact wpv_of (wp_move _ _ rfl e0) (fun _ _ => rfl)
      · obtain rfl := Option.some.inj ho
        exact wpv_of (wp_loadB 23 _ rfl _ (hpar 4 (.pointer (some ⟨w.heap.size, 0, none⟩)) (by kernel_rfl) (by kernel_rfl)) _ _ hSx.1 _ _ uPoly sPoly) (fun _ _ => rfl)
      · obtain rfl := Option.some.inj ho
        obtain ⟨_, e19⟩ : ∃ _w : World, a.eval (.tmp 19) = .agg (u8s 64 f) := (hrd 1 _ 19 rfl rfl (by kernel_rfl) (by kernel_rfl) (by decide)).1
        exact wpv_call 49 [.tmp 19] _ rfl [.agg (u8s 64 f)] (by simp only [List.map_cons, List.map_nil, e19]) Try.call49 (rowOf_any f w2 hfH.out.on)
      · obtain rfl := Option.some.inj ho
        exact wpv_of (wp_loadB 23 _ rfl _ (hpar 5 (.pointer (some ⟨w.heap.size + 1, 0, none⟩)) (by kernel_rfl) (by kernel_rfl)) _ _ hSx.2.1 _ _ uPoly sPoly) (fun _ _ => rfl)
      · obtain rfl := Option.some.inj ho
        obtain ⟨_, e21⟩ : ∃ _w : World, a.eval (.tmp 21) = .agg (u8s 64 g) := (hrd 3 _ 21 rfl rfl (by kernel_rfl) (by kernel_rfl) (by decide)).1
        exact wpv_call 49 [.tmp 21] _ rfl [.agg (u8s 64 g)] (by simp only [List.map_cons, List.map_nil, e21]) Try.call49 (rowOf_any g w2 hgH.out.on)
      · obtain rfl := Option.some.inj ho
        obtain ⟨_, e18⟩ : ∃ _w : World, a.eval (.tmp 18) = .int .i64 p := (hrd 0 _ 18 rfl rfl (by kernel_rfl) (by kernel_rfl) (by decide)).1
        have h20 : (fun v w => IsRow w v (mkp 64 f)) (a.eval (.tmp 20)) w2 := (hrd 2 _ 20 rfl rfl (by kernel_rfl) (by kernel_rfl) (by decide)).2 rfl
        generalize e20 : a.eval (.tmp 20) = v20 at h20
        have h22 : (fun v w => IsRow w v (mkp 64 g)) (a.eval (.tmp 22)) w2 := (hrd 4 _ 22 rfl rfl (by kernel_rfl) (by kernel_rfl) (by decide)).2 rfl
        generalize e22 : a.eval (.tmp 22) = v22 at h22
        exact wpv_call 51 [.tmp 18, .tmp 20, .tmp 22] _ rfl [.int .i64 p, v20, v22] (by simp only [List.map_cons, List.map_nil, e18, e20, e22]) Try.call51 ((times_any _ _ _ _ p w2 hxH.out.pr h20 h22 hxH.out.po.md hyH.out.po.md (by have := hxH.out.le; omega) (by have := hyH.out.le; omega)).mono fun _ _ ⟨v, h1, h2, h3⟩ => ⟨v, h1, hMM.out ▸ h2, h3⟩)
      · obtain rfl := Option.some.inj ho
        have h23 : (fun v w => IsRow w v (M)) (a.eval (.tmp 23)) w2 := (hrd 5 _ 23 rfl rfl (by kernel_rfl) (by kernel_rfl) (by decide)).2 rfl
        generalize e23 : a.eval (.tmp 23) = v23 at h23
        exact wpv_call 47 [.tmp 23] _ rfl [v23] (by simp only [List.map_cons, List.map_nil, e23]) Try.call47 ((told_any _ _ w2 h23 (fun i => By_of_Po hxH.out.pr hMH.out i)).mono fun _ _ ⟨h1, h2⟩ => ⟨_, h1, rfl, h2⟩)
      · obtain rfl := Option.some.inj ho
        obtain ⟨_, e24⟩ : ∃ _w : World, a.eval (.tmp 24) = .tuple #[.agg (u8s 64 (toldF M)), .int .i64 (toldC M)] := (hrd 6 _ 24 rfl rfl (by kernel_rfl) (by kernel_rfl) (by decide)).1
        exact wpv_of (wp_extract _ 0 #[.agg (u8s 64 (toldF M)), .int .i64 (toldC M)] _ rfl e24 rfl) (fun _ _ => rfl)
      · obtain rfl := Option.some.inj ho
        obtain ⟨_, e24⟩ : ∃ _w : World, a.eval (.tmp 24) = .tuple #[.agg (u8s 64 (toldF M)), .int .i64 (toldC M)] := (hrd 6 _ 24 rfl rfl (by kernel_rfl) (by kernel_rfl) (by decide)).1
        exact wpv_of (wp_extract _ 1 #[.agg (u8s 64 (toldF M)), .int .i64 (toldC M)] _ rfl e24 rfl) (fun _ _ => rfl)
      · exact absurd rfl (hz 0 (by decide))
      · obtain rfl := Option.some.inj ho
        obtain ⟨_, e26⟩ : ∃ _w : World, a.eval (.tmp 26) = .int .i64 (toldC M) := (hrd 8 _ 26 rfl rfl (by kernel_rfl) (by kernel_rfl) (by decide)).1
        exact wpv_of (wp_assign _ _ rfl e26) (fun _ _ => rfl)
      · simp at ho
    intro vals xE hBx hSx hS0 hcs hrs
    obtain ⟨_, e0⟩ : ∃ _w : World, vals 0 = .int .i64 p := hcs 0 (by simp) (by decide)
    obtain ⟨_, e1⟩ : ∃ _w : World, vals 1 = .agg (u8s 64 f) := hcs 1 (by simp) (by decide)
    obtain ⟨_, e3⟩ : ∃ _w : World, vals 3 = .agg (u8s 64 g) := hcs 3 (by simp) (by decide)
    obtain ⟨_, e6⟩ : ∃ _w : World, vals 6 = .tuple #[.agg (u8s 64 (toldF M)), .int .i64 (toldC M)] := hcs 6 (by simp) (by decide)
    obtain ⟨_, e7⟩ : ∃ _w : World, vals 7 = .agg (u8s 64 (toldF M)) := hcs 7 (by simp) (by decide)
    obtain ⟨_, e8⟩ : ∃ _w : World, vals 8 = .int .i64 (toldC M) := hcs 8 (by simp) (by decide)
    obtain ⟨_, e10⟩ : ∃ _w : World, vals 10 = .int .i64 (toldC M) := hcs 10 (by simp) (by decide)
    have hsE0 : Blk xE (w.heap.size + 1 + 1) (u8s 64 (toldF M)) 23 := hrs 0 (by decide)
    simp only [List.length_cons, List.length_nil, Nat.zero_add, Nat.reduceAdd, List.replicate, putAll, if_true, Act.put, List.setIfInBounds_toArray, List.set_cons_zero, List.set_cons_succ, e0, e1, e3, e6, e7, e8, e10]
    replace hA1 := hSx.1
    replace hB1 := hSx.2.1
    clear hcs hrs hS0 hSx e0 e1 e3 e6 e7 e8 e10
    go_wp2_with fail
    exact bodyPost_ret (res_ct (x := .int .i64 (toldC M)) rfl rfl hsE0 uPoly sPoly rfl) rfl ⟨rfl, hBx⟩

theorem MultiplyPolys_pair (p : Int) (f : Nat → Int) (g : Nat → Int) (_ : (Lit.int .i64 p).wf = true) (hf : By f) (hg : By g) : ∃ (r0 : (Nat → Int)) (r1 : Int),
    (∀ w, Calls Try.prog 21 #[.int .i64 p, .agg (u8s 64 f), .agg (u8s 64 g)] w fun e w' => e = .returned (.tuple #[.agg (u8s 64 r0), .int .i64 r1]) ∧ Below w.heap.size w w') ∧
    (∀ w, Calls Try.prog 22 #[.int .i64 p, .agg (u8s 64 f), .agg (u8s 64 g)] w fun e w' => e = .returned (.tuple #[.agg (u8s 64 r0), .int .i64 r1]) ∧ Below w.heap.size w w') := by
  obtain ⟨b, hb⟩ := dec_true (Good p [f, g])
  exact ⟨_, _, fun w => specMultiplyPolys_any p f g w hf hg b hb, fun w => implMultiplyPolys_any p f g w hf hg b hb⟩
end Go.Proofs.Ythkkicanockhgaa

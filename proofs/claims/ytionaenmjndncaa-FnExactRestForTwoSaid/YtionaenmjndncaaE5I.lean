/- Walks: the polynomial with two rests, the program. -/
import Derived.Test.YtionaenmjndncaaE5
set_option linter.unusedVariables false
set_option linter.unusedSimpArgs false
namespace Go.Proofs.Ytionaenmjndncaa
open Go.RowKit

set_option maxRecDepth 20000 in
set_option maxHeartbeats 2000000 in
theorem implRestForTwo_any (f0 f1 f2 f3 : Nat → Int) (p : Int) (b c1 c2 d : Bool) (M : List Int) (w : World) (h0 : By f0) (h1 : By f1) (h2 : By f2) (h3 : By f3) (hb : Good p [f0, f1, f2, f3] ↔ b = true) (hc1 : decide (Mon (mkp 64 f1)) = c1) (hc2 : decide (Mon (mkp 64 f3)) = c2) (hd : decide ((bez p (mkp 64 f1) (mkp 64 f3)).1 = [1]) = d) (hM : twoS p (mkp 64 f0) (mkp 64 f1) (mkp 64 f2) (mkp 64 f3) = M) :
    Calls Try.prog 25 #[.int .i64 p, .agg (u8s 64 f0), .agg (u8s 64 f1), .agg (u8s 64 f2), .agg (u8s 64 f3)] w fun e w' => e = .returned (.tuple #[.agg (u8s 64 (twoA b c1 c2 d M)), .int .i64 (twoC b c1 c2 d)]) ∧ Below w.heap.size w w' := by
  have h0H := Lib.hid h0
  have h1H := Lib.hid h1
  have h2H := Lib.hid h2
  have h3H := Lib.hid h3
  have hbH := Lib.hid hb
  have hc1H := Lib.hid hc1
  have hc2H := Lib.hid hc2
  have hdH := Lib.hid hd
  have hMH := Lib.hid hM
  clear h0 h1 h2 h3 hb hc1 hc2 hd hM
  obtain ⟨w0, hw0, hb, hA, hB, hD, hE, hZ⟩ := boxes5 w (u8s 64 f0) (u8s 64 f1) (u8s 64 f2) (u8s 64 f3) (u8s 64 fun _ => 0) 26 26 26 26 26
  have hw0H := Lib.hid hw0.symm
  clear hw0
  go_enter Try.func25, Try.ntmps25
  go_upto_region 1 with ((with_reducible refine wpl_guard ?_); first | (refine wpl_alloc_arr rfl 26 rfl _ zPoly ?_))
  rw [hw0H.out]
  clear hw0H
  go_wp2_with ((with_reducible refine wpl_guard ?_); first | (refine wpl_load_arr rfl 26 _ rfl _ rfl _ _ hA _ _ uPoly sPoly ?_) | (refine wpl_load_arr rfl 26 _ rfl _ rfl _ _ hB _ _ uPoly sPoly ?_) | (refine wpl_load_arr rfl 26 _ rfl _ rfl _ _ hD _ _ uPoly sPoly ?_) | (refine wpl_load_arr rfl 26 _ rfl _ rfl _ _ hE _ _ uPoly sPoly ?_) | (refine wpl_buildSlice_polys rfl 75 26 4 _ rfl Try.underlying75 sPoly zPoly [f0, f1, f2, f3] rfl (by decide) (by decide) rfl ?_))
  refine (polysCode_lit [f0, f1, f2, f3] 4 256 rfl rfl (by omega) p _ _ _ (Blk.newAt (by simp) _ _) (by4 h0H.out h1H.out h2H.out h3H.out) b hbH.out).mono ?_
  rintro e u0 ⟨rfl, hn⟩
  replace hA := (hA.alloc _).keep hn
  replace hB := (hB.alloc _).keep hn
  replace hD := (hD.alloc _).keep hn
  replace hE := (hE.alloc _).keep hn
  replace hZ := (hZ.alloc _).keep hn
  replace hb := below_step hb (below_step (below_new _ _) hn)
  clear hn
  cases b
  · go_wp2_with ((with_reducible refine wpl_guard ?_); first | (refine wpl_build_zero rfl 26 64 5 rfl _ uPoly sByte zPoly ?_) | (refine wpl_store_arr rfl 26 _ _ rfl _ rfl _ rfl _ _ hZ sPoly (by simp only [u8s_size]) (u8s_oneCell _ _) ?_))
    exact bodyPost_ret (res_ct (x := .int .i64 1) rfl rfl (hZ.setRow_same (cs := u8s 64 fun _ => 0)) uPoly sPoly rfl) rfl ⟨rfl, below_setRow hb (by omega) _⟩
  go_wp2_with ((with_reducible refine wpl_guard ?_); first | (refine wpl_load_arr rfl 26 _ rfl _ rfl _ _ hB _ _ uPoly sPoly ?_))
  refine (isModulus_any f1 _ h1H.out c1 hc1H.out).mono ?_
  rintro e u1 ⟨rfl, hn⟩
  replace hA := hA.keep hn
  replace hB := hB.keep hn
  replace hD := hD.keep hn
  replace hE := hE.keep hn
  replace hZ := hZ.keep hn
  replace hb := below_step hb hn
  clear hn
  cases c1
  · go_wp2_with ((with_reducible refine wpl_guard ?_); first | (refine wpl_build_zero rfl 26 64 5 rfl _ uPoly sByte zPoly ?_) | (refine wpl_store_arr rfl 26 _ _ rfl _ rfl _ rfl _ _ hZ sPoly (by simp only [u8s_size]) (u8s_oneCell _ _) ?_))
    exact bodyPost_ret (res_ct (x := .int .i64 2) rfl rfl (hZ.setRow_same (cs := u8s 64 fun _ => 0)) uPoly sPoly rfl) rfl ⟨rfl, below_setRow hb (by omega) _⟩
  go_wp2_with ((with_reducible refine wpl_guard ?_); first | (refine wpl_load_arr rfl 26 _ rfl _ rfl _ _ hE _ _ uPoly sPoly ?_))
  refine (isModulus_any f3 _ h3H.out c2 hc2H.out).mono ?_
  rintro e u2 ⟨rfl, hn⟩
  replace hA := hA.keep hn
  replace hB := hB.keep hn
  replace hD := hD.keep hn
  replace hE := hE.keep hn
  replace hZ := hZ.keep hn
  replace hb := below_step hb hn
  clear hn
  cases c2
  · go_wp2_with ((with_reducible refine wpl_guard ?_); first | (refine wpl_build_zero rfl 26 64 5 rfl _ uPoly sByte zPoly ?_) | (refine wpl_store_arr rfl 26 _ _ rfl _ rfl _ rfl _ _ hZ sPoly (by simp only [u8s_size]) (u8s_oneCell _ _) ?_))
    exact bodyPost_ret (res_ct (x := .int .i64 2) rfl rfl (hZ.setRow_same (cs := u8s 64 fun _ => 0)) uPoly sPoly rfl) rfl ⟨rfl, below_setRow hb (by omega) _⟩
  have hG := hbH.out.2 (by first | rfl | trivial)
  have hx0 : P64 p (mkp 64 f0) := hG.p64 (f := f0) (by simp) h0H.out
  have hx1 : P64 p (mkp 64 f1) := hG.p64 (f := f1) (by simp) h1H.out
  have hx2 : P64 p (mkp 64 f2) := hG.p64 (f := f2) (by simp) h2H.out
  have hx3 : P64 p (mkp 64 f3) := hG.p64 (f := f3) (by simp) h3H.out
  have m1 := of_decide_eq_true hc1H.out
  have m3 := of_decide_eq_true hc2H.out
  have n1 := m1.ne
  have n3 := m3.ne
  obtain ⟨aa, ha⟩ : ∃ aa, mkp 64 f0 = aa := ⟨_, rfl⟩
  obtain ⟨x, hx⟩ : ∃ aa, mkp 64 f1 = aa := ⟨_, rfl⟩
  obtain ⟨c, hc⟩ : ∃ aa, mkp 64 f2 = aa := ⟨_, rfl⟩
  obtain ⟨y, hy⟩ : ∃ aa, mkp 64 f3 = aa := ⟨_, rfl⟩
  have ea : u8s 64 f0 = u8s 64 (cf aa) := by rw [u8s_mkp f0, ha]
  have ex : u8s 64 f1 = u8s 64 (cf x) := by rw [u8s_mkp f1, hx]
  have ec : u8s 64 f2 = u8s 64 (cf c) := by rw [u8s_mkp f2, hc]
  have ey : u8s 64 f3 = u8s 64 (cf y) := by rw [u8s_mkp f3, hy]
  have hd1 := hdH.out
  have hM1 := hMH.out
  rw [ha] at hx0
  rw [hx] at hx1 m1 n1
  rw [hc] at hx2
  rw [hy] at hx3 m3 n3
  rw [hx, hy] at hd1
  rw [ha, hx, hc, hy] at hM1
  rw [ea] at hA
  rw [ex] at hB
  rw [ec] at hD
  rw [ey] at hE
  obtain ⟨q1, q2, q3⟩ := bez_P64 hx1 hx3 (Or.inl n1)
  have hro : ∀ (f : Nat → Int) (l : List Int) (w : World), By f → mkp 64 f = l → Calls Try.prog 31 #[.agg (u8s 64 (cf l))] w fun e w' => ∃ v, e = .returned v ∧ IsRow w' v l ∧ Below w.heap.size w w' := fun f l w hf e => by
    have := rowOf_any f w hf.on
    rw [e] at this
    rwa [u8s_mkp f, e] at this
  have r0 := Lib.hid (fun w => hro f0 aa w h0H.out ha)
  have r1 := Lib.hid (fun w => hro f1 x w h1H.out hx)
  have r2 := Lib.hid (fun w => hro f2 c w h2H.out hc)
  have r3 := Lib.hid (fun w => hro f3 y w h3H.out hy)
  have hbz := fun va vb w ha hb => bezout_any va vb x y p w hx1.pr ha hb hx1.po hx3.po (Or.inl n1) hx1.le hx3.le
  have hti : d = true → twoI p aa x c y = M := fun e => by rw [← hM1]; exact two_eq hx0.pr hx0.po hx1.po hx2.po hx3.po n1 n3 (of_decide_eq_true (hd1.trans e))
  unfold twoI at hti
  obtain ⟨D, hDD⟩ : ∃ D, (bez p x y).1 = D := ⟨_, rfl⟩
  obtain ⟨U, hU⟩ : ∃ D, (bez p x y).2.1 = D := ⟨_, rfl⟩
  obtain ⟨V, hV⟩ : ∃ D, (bez p x y).2.2 = D := ⟨_, rfl⟩
  rw [hDD] at hd1 q1
  rw [hU] at q2
  rw [hV] at q3
  rw [hDD, hU, hV] at hbz
  rw [hU, hV] at hti
  have hp2 := hx0.pr.pos
  have hmu := fun (s t : List Int) va vb w (ha : IsRow w va s) (hb : IsRow w vb t) (k1 : Md p s) (k2 : Md p t) (l1 : s.length ≤ 1000) (l2 : t.length ≤ 1000) => times_any va vb s t p w hx0.pr ha hb k1 k2 (by omega) (by omega)
  have lX := hx1.le
  have lY := hx3.le
  have lA := hx0.le
  have lC := hx2.le
  have lU := q2.le
  have lV := q3.le
  have l1 := mulp_length_le p V y
  have l2 := mulp_length_le p (mulp p V y) aa
  have l3 := mulp_length_le p U x
  have l4 := mulp_length_le p (mulp p U x) c
  have l5 := mulp_length_le p x y
  have nxy : mulp p x y ≠ [] := fun e => by
    have h5 := mulp_length hx0.pr hx1.po hx3.po n1 n3
    have h6 := List.length_pos_iff.2 n1
    have h7 := List.length_pos_iff.2 n3
    rw [e] at h5; simp only [List.length_nil] at h5; omega
  have t0 := fun va vb w (ha : IsRow w va x) (hb : IsRow w vb y) => hmu x y va vb w ha hb hx1.po.md hx3.po.md (by omega) (by omega)
  have t1 := fun va vb w (ha : IsRow w va V) (hb : IsRow w vb y) => hmu V y va vb w ha hb q3.po.md hx3.po.md (by omega) (by omega)
  have t2 := fun va vb w (ha : IsRow w va (mulp p V y)) (hb : IsRow w vb aa) => hmu (mulp p V y) aa va vb w ha hb (mulp_Po (by omega) _ _).md hx0.po.md (by omega) (by omega)
  have t3 := fun va vb w (ha : IsRow w va U) (hb : IsRow w vb x) => hmu U x va vb w ha hb q2.po.md hx1.po.md (by omega) (by omega)
  have t4 := fun va vb w (ha : IsRow w va (mulp p U x)) (hb : IsRow w vb c) => hmu (mulp p U x) c va vb w ha hb (mulp_Po (by omega) _ _).md hx2.po.md (by omega) (by omega)
  have t5 := fun va vb w (ha : IsRow w va (mulp p (mulp p V y) aa)) (hb : IsRow w vb (mulp p (mulp p U x) c)) => combine_any va vb _ _ p 1 w hx0.pr ha hb (mulp_Po (by omega) _ _).md (mulp_Po (by omega) _ _).md (by decide) (by decide) (by omega) (by omega)
  have l6 := addp_length p (mulp p (mulp p V y) aa) (mulp p (mulp p U x) c) 1
  have t6 := fun va vb w (ha : IsRow w va (addp p (mulp p (mulp p V y) aa) (mulp p (mulp p U x) c) 1)) (hb : IsRow w vb (mulp p x y)) => rest_any va vb _ _ p w hx0.pr ha hb (addp_Po (by omega) _ _ _) (mulp_Po (by omega) _ _) nxy (by omega) (by omega)
  generalize mulp p (mulp p V y) aa = L1 at *
  generalize mulp p (mulp p U x) c = L2 at *
  generalize mulp p V y = L3 at *
  generalize mulp p U x = L4 at *
  generalize addp p L1 L2 1 = L5 at *
  generalize mulp p x y = L6 at *
  have hMP : P64 p M := by
    have l7 := (twoS_len (b := c) hx0.pr hx0.po hx1.po hx3.po n1 n3).2
    rw [hM1] at l7
    have l8 := m1.2.2
    have l9 := m3.2.2
    exact ⟨hx0.pr, hM1 ▸ addp_Po (by omega) _ _ _, by omega⟩
  have htd := fun v w (h : IsRow w v M) => told_any v M w h (fun i => By_of_Po hx0.pr hMP.po i)
  have hML : M.length ≤ 64 := hMP.le
  rw [show toldF M = cf M from if_pos hML, show toldC M = 0 from if_pos hML] at htd
  have k0 := Lib.hid t0
  have k1 := Lib.hid t1
  have k2 := Lib.hid t2
  have k3 := Lib.hid t3
  have k4 := Lib.hid t4
  have k5 := Lib.hid t5
  have k6 := Lib.hid t6
  have k7 := Lib.hid htd
  have kb := Lib.hid hbz
  have hd1H := Lib.hid hd1
  have htiH := Lib.hid hti
  clear t0 t1 t2 t3 t4 t5 t6 htd hbz hti hmu hro hMP hML nxy lX lY lA lC lU lV l1 l2 l3 l4 l5 l6 q1 q2 q3 hU hV hDD hd1 hM1 hdH hMH hx0 hx1 hx2 hx3 m1 m3 n1 n3 ha hx hc hy ea ex ec ey hG hbH hc1H hc2H hp2
  go_upto_region 6 with (fail)
  refine gen_region (ws := w) (w := _) (B := w.heap.size) (by kernel_rfl) (by kernel_rfl) (by kernel_rfl) (by kernel_rfl)
      (fun i => ([fun v _ => v = .int .i64 p, fun v _ => v = .agg (u8s 64 (cf x)), fun v w => IsRow w v (x), fun v _ => v = .agg (u8s 64 (cf y)), fun v w => IsRow w v (y), fun v _ => v = .int .i64 p, fun v w => IsRow w v (x), fun v w => IsRow w v (y)] : List (Value → World → Prop)).getD i (fun _ _ => True))
      (fun i => ([true, true, false, true, false, true, false, false] : List Bool).getD i true)
      0 (fun k => [].getD k 0) (fun k => [].getD k 0) (fun k => [].getD k 0) (fun k => [].getD k 0) (fun k => [].getD k 0) (fun k => [].getD k 0) (fun k => [].getD k (fun _ => 0)) (fun k => [].getD k (fun _ => 0)) (fun k => [].getD k 0) hb (Nat.le_refl _)
      (fun w' => Blk w' (w.heap.size + 1) (u8s 64 (cf x)) 26 ∧ Blk w' (w.heap.size + 1 + 1 + 1) (u8s 64 (cf y)) 26 ∧ True) ⟨hB.drew, hE.drew, trivial⟩ (fun w1 w2 h hb => ⟨h.1.keep hb, h.2.1.keep hb, trivial⟩) ?_ ?_ ?_ ?_ ?_ ?_ ?_
  · exact fun k hk => absurd hk (by omega)
  · intro i v w1 w2 h hb
    rcases i with _|_|_|_|_|_|_|_|i
    · exact h
    · exact h
    · exact (show IsRow w1 v (x) from h).below hb
    · exact h
    · exact (show IsRow w1 v (y) from h).below hb
    · exact h
    · exact (show IsRow w1 v (x) from h).below hb
    · exact (show IsRow w1 v (y) from h).below hb
    · exact h
  · exact fun k hk => absurd hk (by omega)
  · exact fun k hk => absurd hk (by omega)
  · kernel_rfl
  · intro i o ho hz a w2 hBs hSx hBl hrd hpar
    rcases i with _|_|_|_|_|_|_|_|i
    · obtain rfl := Option.some.inj ho
      have e0 : a.eval (.tmp 0) = .int .i64 p := hpar 0 _ (by kernel_rfl) (by kernel_rfl)
      exact wpv_of (wp_move _ _ rfl e0) (fun _ _ => rfl)
    · obtain rfl := Option.some.inj ho
      exact wpv_of (wp_loadB 26 _ rfl _ (hpar 7 (.pointer (some ⟨w.heap.size + 1, 0, none⟩)) (by kernel_rfl) (by kernel_rfl)) _ _ hSx.1 _ _ uPoly sPoly) (fun _ _ => rfl)
    · obtain rfl := Option.some.inj ho
      obtain ⟨_, e43⟩ : ∃ _w : World, a.eval (.tmp 43) = .agg (u8s 64 (cf x)) := (hrd 1 _ 43 rfl rfl (by kernel_rfl) (by kernel_rfl) (by decide)).1
      exact wpv_call 31 [.tmp 43] _ rfl [.agg (u8s 64 (cf x))] (by simp only [List.map_cons, List.map_nil, e43]) Try.call31 (r1.out w2)
    · obtain rfl := Option.some.inj ho
      exact wpv_of (wp_loadB 26 _ rfl _ (hpar 9 (.pointer (some ⟨w.heap.size + 1 + 1 + 1, 0, none⟩)) (by kernel_rfl) (by kernel_rfl)) _ _ hSx.2.1 _ _ uPoly sPoly) (fun _ _ => rfl)
    · obtain rfl := Option.some.inj ho
      obtain ⟨_, e45⟩ : ∃ _w : World, a.eval (.tmp 45) = .agg (u8s 64 (cf y)) := (hrd 3 _ 45 rfl rfl (by kernel_rfl) (by kernel_rfl) (by decide)).1
      exact wpv_call 31 [.tmp 45] _ rfl [.agg (u8s 64 (cf y))] (by simp only [List.map_cons, List.map_nil, e45]) Try.call31 (r3.out w2)
    · obtain rfl := Option.some.inj ho
      obtain ⟨_, e42⟩ : ∃ _w : World, a.eval (.tmp 42) = .int .i64 p := (hrd 0 _ 42 rfl rfl (by kernel_rfl) (by kernel_rfl) (by decide)).1
      exact wpv_of (wp_assign _ _ rfl e42) (fun _ _ => rfl)
    · obtain rfl := Option.some.inj ho
      have h44 : (fun v w => IsRow w v (x)) (a.eval (.tmp 44)) w2 := (hrd 2 _ 44 rfl rfl (by kernel_rfl) (by kernel_rfl) (by decide)).2 rfl
      generalize e44 : a.eval (.tmp 44) = v44 at h44
      exact wpv_of (wp_assign _ _ rfl e44) (fun w' hb => h44.below hb)
    · obtain rfl := Option.some.inj ho
      have h46 : (fun v w => IsRow w v (y)) (a.eval (.tmp 46)) w2 := (hrd 4 _ 46 rfl rfl (by kernel_rfl) (by kernel_rfl) (by decide)).2 rfl
      generalize e46 : a.eval (.tmp 46) = v46 at h46
      exact wpv_of (wp_assign _ _ rfl e46) (fun w' hb => h46.below hb)
    · simp at ho
  intro vals xE hBx hSx hS0 hcs hrs
  obtain ⟨hBl, hc0⟩ := hS0 rfl
  have e0 : vals 0 = .int .i64 p := hc0 0 (by simp)
  have e1 : vals 1 = .agg (u8s 64 (cf x)) := hc0 1 (by simp)
  have cE2 : (fun v w => IsRow w v (x)) (vals 2) xE := hc0 2 (by simp)
  generalize ev2 : vals 2 = uE2 at cE2
  have e3 : vals 3 = .agg (u8s 64 (cf y)) := hc0 3 (by simp)
  have cE4 : (fun v w => IsRow w v (y)) (vals 4) xE := hc0 4 (by simp)
  generalize ev4 : vals 4 = uE4 at cE4
  have e5 : vals 5 = .int .i64 p := hc0 5 (by simp)
  have cE6 : (fun v w => IsRow w v (x)) (vals 6) xE := hc0 6 (by simp)
  generalize ev6 : vals 6 = uE6 at cE6
  have cE7 : (fun v w => IsRow w v (y)) (vals 7) xE := hc0 7 (by simp)
  generalize ev7 : vals 7 = uE7 at cE7
  simp only [List.length_cons, List.length_nil, Nat.zero_add, Nat.reduceAdd, List.replicate, putAll, if_true, Act.put, List.setIfInBounds_toArray, List.set_cons_zero, List.set_cons_succ, e0, e1, ev2, e3, ev4, e5, ev6, ev7]
  replace hA := hA.keep hBl
  replace hD := hD.keep hBl
  replace hZ := hZ.keep hBl
  replace hB := hSx.1
  replace hE := hSx.2.1
  clear hcs hrs hS0 hSx e0 e1 ev2 e3 ev4 e5 ev6 ev7 hc0
  have kx := Lib.hid cE6
  have ky := Lib.hid cE7
  replace hb := hBx
  clear hBl hBx cE2 cE4 cE6 cE7
  go_wp2_with fail
  refine (kb.out _ _ _ kx.out ky.out).mono ?_
  rintro e u20 ⟨v1, v2, v3, rfl, g1, g2, g3, hn⟩
  have kd := Lib.hid g1
  have ku := Lib.hid g2
  have kv := Lib.hid g3
  clear g1 g2 g3
  replace hA := hA.keep hn
  replace hB := hB.keep hn
  replace hD := hD.keep hn
  replace hE := hE.keep hn
  replace hZ := hZ.keep hn
  replace kx := Lib.hid (kx.out.below hn)
  replace ky := Lib.hid (ky.out.below hn)
  replace hb := below_step hb hn
  clear hn
  go_wp2_with fail
  refine (isOne_any _ _ _ kd.out d hd1H.out).mono ?_
  rintro e u3 ⟨rfl, rfl⟩
  cases d
  · go_wp2_with ((with_reducible refine wpl_guard ?_); first | (refine wpl_build_zero rfl 26 64 5 rfl _ uPoly sByte zPoly ?_) | (refine wpl_store_arr rfl 26 _ _ rfl _ rfl _ rfl _ _ hZ sPoly (by simp only [u8s_size]) (u8s_oneCell _ _) ?_))
    exact bodyPost_ret (res_ct (x := .int .i64 5) rfl rfl (hZ.setRow_same (cs := u8s 64 fun _ => 0)) uPoly sPoly rfl) rfl ⟨rfl, below_setRow hb (by omega) _⟩
  have hfin := Lib.hid (htiH.out rfl)
  clear htiH
  go_wp2_with fail
  refine (k0.out _ _ _ kx.out ky.out).mono ?_
  rintro e u21 ⟨v4, rfl, hr, hn⟩
  have kw := Lib.hid hr
  clear hr
  replace hA := hA.keep hn
  replace hB := hB.keep hn
  replace hD := hD.keep hn
  replace hE := hE.keep hn
  replace hZ := hZ.keep hn
  replace kx := Lib.hid (kx.out.below hn)
  replace ky := Lib.hid (ky.out.below hn)
  replace kd := Lib.hid (kd.out.below hn)
  replace ku := Lib.hid (ku.out.below hn)
  replace kv := Lib.hid (kv.out.below hn)
  replace hb := below_step hb hn
  clear hn
  go_upto_region 11 with (fail)
  refine gen_region (ws := w) (w := _) (B := w.heap.size) (by kernel_rfl) (by kernel_rfl) (by kernel_rfl) (by kernel_rfl)
      (fun i => ([fun v _ => v = .int .i64 p, fun v _ => v = .int .i64 p, fun v w => IsRow w v (V), fun v w => IsRow w v (y), fun v w => IsRow w v (L3), fun v _ => v = .agg (u8s 64 (cf aa)), fun v w => IsRow w v (aa), fun v w => IsRow w v (L1), fun v w => IsRow w v (L1)] : List (Value → World → Prop)).getD i (fun _ _ => True))
      (fun i => ([true, true, false, false, false, true, false, false, false] : List Bool).getD i true)
      0 (fun k => [].getD k 0) (fun k => [].getD k 0) (fun k => [].getD k 0) (fun k => [].getD k 0) (fun k => [].getD k 0) (fun k => [].getD k 0) (fun k => [].getD k (fun _ => 0)) (fun k => [].getD k (fun _ => 0)) (fun k => [].getD k 0) hb (Nat.le_refl _)
      (fun w' => Blk w' (w.heap.size) (u8s 64 (cf aa)) 26 ∧ True) ⟨hA.drew, trivial⟩ (fun w1 w2 h hb => ⟨h.1.keep hb, trivial⟩) ?_ ?_ ?_ ?_ ?_ ?_ ?_
  · exact fun k hk => absurd hk (by omega)
  · intro i v w1 w2 h hb
    rcases i with _|_|_|_|_|_|_|_|_|i
    · exact h
    · exact h
    · exact (show IsRow w1 v (V) from h).below hb
    · exact (show IsRow w1 v (y) from h).below hb
    · exact (show IsRow w1 v (L3) from h).below hb
    · exact h
    · exact (show IsRow w1 v (aa) from h).below hb
    · exact (show IsRow w1 v (L1) from h).below hb
    · exact (show IsRow w1 v (L1) from h).below hb
    · exact h
  · exact fun k hk => absurd hk (by omega)
  · exact fun k hk => absurd hk (by omega)
  · kernel_rfl
  · intro i o ho hz a w2 hBs hSx hBl hrd hpar
    rcases i with _|_|_|_|_|_|_|_|_|i
    · obtain rfl := Option.some.inj ho
      have e13 : a.eval (.tmp 13) = .int .i64 p := hpar 13 _ (by kernel_rfl) (by kernel_rfl)
      exact wpv_of (wp_move _ _ rfl e13) (fun _ _ => rfl)
    · obtain rfl := Option.some.inj ho
      have e13 : a.eval (.tmp 13) = .int .i64 p := hpar 13 _ (by kernel_rfl) (by kernel_rfl)
      exact wpv_of (wp_move _ _ rfl e13) (fun _ _ => rfl)
    · obtain rfl := Option.some.inj ho
      have e18 : a.eval (.tmp 18) = v3 := hpar 18 _ (by kernel_rfl) (by kernel_rfl)
      have h18 := (kv.out).below (hBl rfl)
      exact wpv_of (wp_move _ _ rfl e18) (fun w' hb => h18.below hb)
    · obtain rfl := Option.some.inj ho
      have e15 : a.eval (.tmp 15) = uE7 := hpar 15 _ (by kernel_rfl) (by kernel_rfl)
      have h15 := (ky.out).below (hBl rfl)
      exact wpv_of (wp_move _ _ rfl e15) (fun w' hb => h15.below hb)
    · obtain rfl := Option.some.inj ho
      obtain ⟨_, e64⟩ : ∃ _w : World, a.eval (.tmp 64) = .int .i64 p := (hrd 1 _ 64 rfl rfl (by kernel_rfl) (by kernel_rfl) (by decide)).1
      have h65 : (fun v w => IsRow w v (V)) (a.eval (.tmp 65)) w2 := (hrd 2 _ 65 rfl rfl (by kernel_rfl) (by kernel_rfl) (by decide)).2 rfl
      generalize e65 : a.eval (.tmp 65) = v65 at h65
      have h66 : (fun v w => IsRow w v (y)) (a.eval (.tmp 66)) w2 := (hrd 3 _ 66 rfl rfl (by kernel_rfl) (by kernel_rfl) (by decide)).2 rfl
      generalize e66 : a.eval (.tmp 66) = v66 at h66
      exact wpv_call 55 [.tmp 64, .tmp 65, .tmp 66] _ rfl [.int .i64 p, v65, v66] (by simp only [List.map_cons, List.map_nil, e64, e65, e66]) Try.call55 (k1.out _ _ w2 h65 h66)
    · obtain rfl := Option.some.inj ho
      exact wpv_of (wp_loadB 26 _ rfl _ (hpar 6 (.pointer (some ⟨w.heap.size, 0, none⟩)) (by kernel_rfl) (by kernel_rfl)) _ _ hSx.1 _ _ uPoly sPoly) (fun _ _ => rfl)
    · obtain rfl := Option.some.inj ho
      obtain ⟨_, e68⟩ : ∃ _w : World, a.eval (.tmp 68) = .agg (u8s 64 (cf aa)) := (hrd 5 _ 68 rfl rfl (by kernel_rfl) (by kernel_rfl) (by decide)).1
      exact wpv_call 31 [.tmp 68] _ rfl [.agg (u8s 64 (cf aa))] (by simp only [List.map_cons, List.map_nil, e68]) Try.call31 (r0.out w2)
    · obtain rfl := Option.some.inj ho
      obtain ⟨_, e63⟩ : ∃ _w : World, a.eval (.tmp 63) = .int .i64 p := (hrd 0 _ 63 rfl rfl (by kernel_rfl) (by kernel_rfl) (by decide)).1
      have h67 : (fun v w => IsRow w v (L3)) (a.eval (.tmp 67)) w2 := (hrd 4 _ 67 rfl rfl (by kernel_rfl) (by kernel_rfl) (by decide)).2 rfl
      generalize e67 : a.eval (.tmp 67) = v67 at h67
      have h69 : (fun v w => IsRow w v (aa)) (a.eval (.tmp 69)) w2 := (hrd 6 _ 69 rfl rfl (by kernel_rfl) (by kernel_rfl) (by decide)).2 rfl
      generalize e69 : a.eval (.tmp 69) = v69 at h69
      exact wpv_call 55 [.tmp 63, .tmp 67, .tmp 69] _ rfl [.int .i64 p, v67, v69] (by simp only [List.map_cons, List.map_nil, e63, e67, e69]) Try.call55 (k2.out _ _ w2 h67 h69)
    · obtain rfl := Option.some.inj ho
      have h70 : (fun v w => IsRow w v (L1)) (a.eval (.tmp 70)) w2 := (hrd 7 _ 70 rfl rfl (by kernel_rfl) (by kernel_rfl) (by decide)).2 rfl
      generalize e70 : a.eval (.tmp 70) = v70 at h70
      exact wpv_of (wp_assign _ _ rfl e70) (fun w' hb => h70.below hb)
    · simp at ho
  intro vals xH hBx hSx hS0 hcs hrs
  obtain ⟨hBl, hc0⟩ := hS0 rfl
  have e0 : vals 0 = .int .i64 p := hc0 0 (by simp)
  have e1 : vals 1 = .int .i64 p := hc0 1 (by simp)
  have cH2 : (fun v w => IsRow w v (V)) (vals 2) xH := hc0 2 (by simp)
  generalize ev2 : vals 2 = uH2 at cH2
  have cH3 : (fun v w => IsRow w v (y)) (vals 3) xH := hc0 3 (by simp)
  generalize ev3 : vals 3 = uH3 at cH3
  have cH4 : (fun v w => IsRow w v (L3)) (vals 4) xH := hc0 4 (by simp)
  generalize ev4 : vals 4 = uH4 at cH4
  have e5 : vals 5 = .agg (u8s 64 (cf aa)) := hc0 5 (by simp)
  have cH6 : (fun v w => IsRow w v (aa)) (vals 6) xH := hc0 6 (by simp)
  generalize ev6 : vals 6 = uH6 at cH6
  have cH7 : (fun v w => IsRow w v (L1)) (vals 7) xH := hc0 7 (by simp)
  generalize ev7 : vals 7 = uH7 at cH7
  have cH8 : (fun v w => IsRow w v (L1)) (vals 8) xH := hc0 8 (by simp)
  generalize ev8 : vals 8 = uH8 at cH8
  simp only [List.length_cons, List.length_nil, Nat.zero_add, Nat.reduceAdd, List.replicate, putAll, if_true, Act.put, List.setIfInBounds_toArray, List.set_cons_zero, List.set_cons_succ, e0, e1, ev2, ev3, ev4, e5, ev6, ev7, ev8]
  replace hB := hB.keep hBl
  replace hD := hD.keep hBl
  replace hE := hE.keep hBl
  replace hZ := hZ.keep hBl
  replace hA := hSx.1
  clear hcs hrs hS0 hSx e0 e1 ev2 ev3 ev4 e5 ev6 ev7 ev8 hc0
  have kl := Lib.hid cH8
  replace kx := Lib.hid (kx.out.below hBl)
  replace ky := Lib.hid (ky.out.below hBl)
  replace kd := Lib.hid (kd.out.below hBl)
  replace ku := Lib.hid (ku.out.below hBl)
  replace kv := Lib.hid (kv.out.below hBl)
  replace kw := Lib.hid (kw.out.below hBl)
  replace hb := hBx
  clear hBl hBx
  go_upto_region 12 with (fail)
  refine gen_region (ws := w) (w := _) (B := w.heap.size) (by kernel_rfl) (by kernel_rfl) (by kernel_rfl) (by kernel_rfl)
      (fun i => ([fun v _ => v = .int .i64 p, fun v _ => v = .int .i64 p, fun v w => IsRow w v (U), fun v w => IsRow w v (x), fun v w => IsRow w v (L4), fun v _ => v = .agg (u8s 64 (cf c)), fun v w => IsRow w v (c), fun v w => IsRow w v (L2), fun v w => IsRow w v (L2)] : List (Value → World → Prop)).getD i (fun _ _ => True))
      (fun i => ([true, true, false, false, false, true, false, false, false] : List Bool).getD i true)
      0 (fun k => [].getD k 0) (fun k => [].getD k 0) (fun k => [].getD k 0) (fun k => [].getD k 0) (fun k => [].getD k 0) (fun k => [].getD k 0) (fun k => [].getD k (fun _ => 0)) (fun k => [].getD k (fun _ => 0)) (fun k => [].getD k 0) hb (Nat.le_refl _)
      (fun w' => Blk w' (w.heap.size + 1 + 1) (u8s 64 (cf c)) 26 ∧ True) ⟨hD.drew, trivial⟩ (fun w1 w2 h hb => ⟨h.1.keep hb, trivial⟩) ?_ ?_ ?_ ?_ ?_ ?_ ?_
  · exact fun k hk => absurd hk (by omega)
  · intro i v w1 w2 h hb
    rcases i with _|_|_|_|_|_|_|_|_|i
    · exact h
    · exact h
    · exact (show IsRow w1 v (U) from h).below hb
    · exact (show IsRow w1 v (x) from h).below hb
    · exact (show IsRow w1 v (L4) from h).below hb
    · exact h
    · exact (show IsRow w1 v (c) from h).below hb
    · exact (show IsRow w1 v (L2) from h).below hb
    · exact (show IsRow w1 v (L2) from h).below hb
    · exact h
  · exact fun k hk => absurd hk (by omega)
  · exact fun k hk => absurd hk (by omega)
  · kernel_rfl
  · intro i o ho hz a w2 hBs hSx hBl hrd hpar
    rcases i with _|_|_|_|_|_|_|_|_|i
    · obtain rfl := Option.some.inj ho
      have e13 : a.eval (.tmp 13) = .int .i64 p := hpar 13 _ (by kernel_rfl) (by kernel_rfl)
      exact wpv_of (wp_move _ _ rfl e13) (fun _ _ => rfl)
    · obtain rfl := Option.some.inj ho
      have e13 : a.eval (.tmp 13) = .int .i64 p := hpar 13 _ (by kernel_rfl) (by kernel_rfl)
      exact wpv_of (wp_move _ _ rfl e13) (fun _ _ => rfl)
    · obtain rfl := Option.some.inj ho
      have e17 : a.eval (.tmp 17) = v2 := hpar 17 _ (by kernel_rfl) (by kernel_rfl)
      have h17 := (ku.out).below (hBl rfl)
      exact wpv_of (wp_move _ _ rfl e17) (fun w' hb => h17.below hb)
    · obtain rfl := Option.some.inj ho
      have e14 : a.eval (.tmp 14) = uE6 := hpar 14 _ (by kernel_rfl) (by kernel_rfl)
      have h14 := (kx.out).below (hBl rfl)
      exact wpv_of (wp_move _ _ rfl e14) (fun w' hb => h14.below hb)
    · obtain rfl := Option.some.inj ho
      obtain ⟨_, e72⟩ : ∃ _w : World, a.eval (.tmp 72) = .int .i64 p := (hrd 1 _ 72 rfl rfl (by kernel_rfl) (by kernel_rfl) (by decide)).1
      have h73 : (fun v w => IsRow w v (U)) (a.eval (.tmp 73)) w2 := (hrd 2 _ 73 rfl rfl (by kernel_rfl) (by kernel_rfl) (by decide)).2 rfl
      generalize e73 : a.eval (.tmp 73) = v73 at h73
      have h74 : (fun v w => IsRow w v (x)) (a.eval (.tmp 74)) w2 := (hrd 3 _ 74 rfl rfl (by kernel_rfl) (by kernel_rfl) (by decide)).2 rfl
      generalize e74 : a.eval (.tmp 74) = v74 at h74
      exact wpv_call 55 [.tmp 72, .tmp 73, .tmp 74] _ rfl [.int .i64 p, v73, v74] (by simp only [List.map_cons, List.map_nil, e72, e73, e74]) Try.call55 (k3.out _ _ w2 h73 h74)
    · obtain rfl := Option.some.inj ho
      exact wpv_of (wp_loadB 26 _ rfl _ (hpar 8 (.pointer (some ⟨w.heap.size + 1 + 1, 0, none⟩)) (by kernel_rfl) (by kernel_rfl)) _ _ hSx.1 _ _ uPoly sPoly) (fun _ _ => rfl)
    · obtain rfl := Option.some.inj ho
      obtain ⟨_, e76⟩ : ∃ _w : World, a.eval (.tmp 76) = .agg (u8s 64 (cf c)) := (hrd 5 _ 76 rfl rfl (by kernel_rfl) (by kernel_rfl) (by decide)).1
      exact wpv_call 31 [.tmp 76] _ rfl [.agg (u8s 64 (cf c))] (by simp only [List.map_cons, List.map_nil, e76]) Try.call31 (r2.out w2)
    · obtain rfl := Option.some.inj ho
      obtain ⟨_, e71⟩ : ∃ _w : World, a.eval (.tmp 71) = .int .i64 p := (hrd 0 _ 71 rfl rfl (by kernel_rfl) (by kernel_rfl) (by decide)).1
      have h75 : (fun v w => IsRow w v (L4)) (a.eval (.tmp 75)) w2 := (hrd 4 _ 75 rfl rfl (by kernel_rfl) (by kernel_rfl) (by decide)).2 rfl
      generalize e75 : a.eval (.tmp 75) = v75 at h75
      have h77 : (fun v w => IsRow w v (c)) (a.eval (.tmp 77)) w2 := (hrd 6 _ 77 rfl rfl (by kernel_rfl) (by kernel_rfl) (by decide)).2 rfl
      generalize e77 : a.eval (.tmp 77) = v77 at h77
      exact wpv_call 55 [.tmp 71, .tmp 75, .tmp 77] _ rfl [.int .i64 p, v75, v77] (by simp only [List.map_cons, List.map_nil, e71, e75, e77]) Try.call55 (k4.out _ _ w2 h75 h77)
    · obtain rfl := Option.some.inj ho
      have h78 : (fun v w => IsRow w v (L2)) (a.eval (.tmp 78)) w2 := (hrd 7 _ 78 rfl rfl (by kernel_rfl) (by kernel_rfl) (by decide)).2 rfl
      generalize e78 : a.eval (.tmp 78) = v78 at h78
      exact wpv_of (wp_assign _ _ rfl e78) (fun w' hb => h78.below hb)
    · simp at ho
  intro vals xJ hBx hSx hS0 hcs hrs
  obtain ⟨hBl, hc0⟩ := hS0 rfl
  have e0 : vals 0 = .int .i64 p := hc0 0 (by simp)
  have e1 : vals 1 = .int .i64 p := hc0 1 (by simp)
  have cJ2 : (fun v w => IsRow w v (U)) (vals 2) xJ := hc0 2 (by simp)
  generalize ev2 : vals 2 = uJ2 at cJ2
  have cJ3 : (fun v w => IsRow w v (x)) (vals 3) xJ := hc0 3 (by simp)
  generalize ev3 : vals 3 = uJ3 at cJ3
  have cJ4 : (fun v w => IsRow w v (L4)) (vals 4) xJ := hc0 4 (by simp)
  generalize ev4 : vals 4 = uJ4 at cJ4
  have e5 : vals 5 = .agg (u8s 64 (cf c)) := hc0 5 (by simp)
  have cJ6 : (fun v w => IsRow w v (c)) (vals 6) xJ := hc0 6 (by simp)
  generalize ev6 : vals 6 = uJ6 at cJ6
  have cJ7 : (fun v w => IsRow w v (L2)) (vals 7) xJ := hc0 7 (by simp)
  generalize ev7 : vals 7 = uJ7 at cJ7
  have cJ8 : (fun v w => IsRow w v (L2)) (vals 8) xJ := hc0 8 (by simp)
  generalize ev8 : vals 8 = uJ8 at cJ8
  simp only [List.length_cons, List.length_nil, Nat.zero_add, Nat.reduceAdd, List.replicate, putAll, if_true, Act.put, List.setIfInBounds_toArray, List.set_cons_zero, List.set_cons_succ, e0, e1, ev2, ev3, ev4, e5, ev6, ev7, ev8]
  replace hA := hA.keep hBl
  replace hB := hB.keep hBl
  replace hE := hE.keep hBl
  replace hZ := hZ.keep hBl
  replace hD := hSx.1
  clear hcs hrs hS0 hSx e0 e1 ev2 ev3 ev4 e5 ev6 ev7 ev8 hc0
  have kr := Lib.hid cJ8
  replace kx := Lib.hid (kx.out.below hBl)
  replace ky := Lib.hid (ky.out.below hBl)
  replace kd := Lib.hid (kd.out.below hBl)
  replace ku := Lib.hid (ku.out.below hBl)
  replace kv := Lib.hid (kv.out.below hBl)
  replace kw := Lib.hid (kw.out.below hBl)
  replace kl := Lib.hid (kl.out.below hBl)
  replace hb := hBx
  clear hBl hBx
  go_wp2_with fail
  refine (k5.out _ _ _ kl.out kr.out).mono ?_
  rintro e u22 ⟨v5, rfl, hr, hn⟩
  have ks := Lib.hid hr
  clear hr
  replace hA := hA.keep hn
  replace hB := hB.keep hn
  replace hD := hD.keep hn
  replace hE := hE.keep hn
  replace hZ := hZ.keep hn
  replace kw := Lib.hid (kw.out.below hn)
  replace hb := below_step hb hn
  clear hn
  go_wp2_with fail
  refine (k6.out _ _ _ ks.out kw.out).mono ?_
  rintro e u23 ⟨v6, rfl, hr, hn⟩
  rw [hfin.out] at hr
  have kt := Lib.hid hr
  clear hr
  replace hA := hA.keep hn
  replace hB := hB.keep hn
  replace hD := hD.keep hn
  replace hE := hE.keep hn
  replace hZ := hZ.keep hn
  replace hb := below_step hb hn
  clear hn
  go_wp2_with fail
  refine (k7.out _ _ kt.out).mono ?_
  rintro e u4 ⟨rfl, hn⟩
  replace hA := hA.keep hn
  replace hB := hB.keep hn
  replace hD := hD.keep hn
  replace hE := hE.keep hn
  replace hZ := hZ.keep hn
  replace hb := below_step hb hn
  clear hn
  go_wp2_with ((with_reducible refine wpl_guard ?_); first | (refine wpl_store_arr rfl 26 _ _ rfl _ rfl _ rfl _ _ hZ sPoly (by simp only [u8s_size]) (u8s_oneCell _ _) ?_))
  exact bodyPost_ret (res_ct (x := .int .i64 0) rfl rfl (hZ.setRow_same (cs := u8s 64 (cf M))) uPoly sPoly rfl) rfl ⟨rfl, below_setRow hb (by omega) _⟩

theorem RestForTwo_pair (p : Int) (f0 f1 f2 f3 : Nat → Int) (_ : (Lit.int .i64 p).wf = true) (h0 : By f0) (h1 : By f1) (h2 : By f2) (h3 : By f3) : ∃ (r0 : Nat → Int) (r1 : Int),
    (∀ w, Calls Try.prog 24 #[.int .i64 p, .agg (u8s 64 f0), .agg (u8s 64 f1), .agg (u8s 64 f2), .agg (u8s 64 f3)] w fun e w' => e = .returned (.tuple #[.agg (u8s 64 r0), .int .i64 r1]) ∧ Below w.heap.size w w') ∧
    (∀ w, Calls Try.prog 25 #[.int .i64 p, .agg (u8s 64 f0), .agg (u8s 64 f1), .agg (u8s 64 f2), .agg (u8s 64 f3)] w fun e w' => e = .returned (.tuple #[.agg (u8s 64 r0), .int .i64 r1]) ∧ Below w.heap.size w w') := by
  obtain ⟨b, hb⟩ := dec_true (Good p [f0, f1, f2, f3])
  exact ⟨_, _, fun w => specRestForTwo_any f0 f1 f2 f3 p b _ _ _ _ w h0 h1 h2 h3 hb rfl rfl rfl rfl, fun w => implRestForTwo_any f0 f1 f2 f3 p b _ _ _ _ w h0 h1 h2 h3 hb rfl rfl rfl rfl⟩
end Go.Proofs.Ytionaenmjndncaa

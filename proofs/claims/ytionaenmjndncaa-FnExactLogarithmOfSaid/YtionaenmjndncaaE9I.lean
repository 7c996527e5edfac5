/- Walks: logarithms, the program. -/
import Derived.Test.YtionaenmjndncaaE9S
set_option linter.unusedVariables false
set_option linter.unusedSimpArgs false
namespace Go.Proofs.Ytionaenmjndncaa
open Go.RowKit

set_option maxRecDepth 20000 in
set_option maxHeartbeats 2000000 in
theorem implLogarithmOf_any (f0 f1 f2 : Nat → Int) (p : Int) (b c : Bool) (r : Option Nat) (w : World) (h0 : By f0) (h1 : By f1) (h2 : By f2) (hb : Good p [f2, f0, f1] ↔ b = true) (hc : decide (Mon (mkp 64 f2)) = c) (hr : b = true → c = true → LgR p (rst p (mkp 64 f1) (mkp 64 f2)) (mkp 64 f2) (rst p (mkp 64 f0) (mkp 64 f2)) ((p ^ ((mkp 64 f2).length - 1)).toNat) r) :
    Calls Try.prog 23 #[.int .i64 p, .agg (u8s 64 f0), .agg (u8s 64 f1), .agg (u8s 64 f2)] w fun e w' => e = .returned (.tuple #[.int .i64 (lgA b c r), .int .i64 (lgC b c r)]) ∧ Below w.heap.size w w' := by
  have h0H := Lib.hid h0
  have h1H := Lib.hid h1
  have h2H := Lib.hid h2
  have hbH := Lib.hid hb
  have hcH := Lib.hid hc
  have hrH := Lib.hid hr
  clear h0 h1 h2 hb hc hr
  obtain ⟨hb, hA, hB, hD⟩ := boxes3 w (u8s 64 f0) (u8s 64 f1) (u8s 64 f2) 26 26 26
  go_enter Try.func23, Try.ntmps23
  go_wp2_with ((with_reducible refine wpl_guard ?_); first | (refine wpl_load_arr rfl 26 _ rfl _ rfl _ _ hA _ _ uPoly sPoly ?_) | (refine wpl_load_arr rfl 26 _ rfl _ rfl _ _ hB _ _ uPoly sPoly ?_) | (refine wpl_load_arr rfl 26 _ rfl _ rfl _ _ hD _ _ uPoly sPoly ?_) | (refine wpl_buildSlice_polys rfl 75 26 2 _ rfl Try.underlying75 sPoly zPoly [f0, f1] rfl (by decide) (by decide) rfl ?_))
  refine (modulusCode_lit f2 [f0, f1] 2 128 rfl rfl (by omega) (by omega) p _ _ (Blk.newAt (by simp) _ _) h2H.out (by2 h0H.out h1H.out) b c hbH.out hcH.out).mono ?_
  rintro e u0 ⟨rfl, hn⟩
  replace hb := below_lit hb (by simp only [size_alloc]; omega) (by simp) hn
  replace hA := hA.lit (by simp) hn
  replace hB := hB.lit (by simp) hn
  replace hD := hD.lit (by simp) hn
  clear hn
  cases b
  · go_wp2_with fail
    go_ret2
    exact ⟨rfl, hb⟩
  cases c
  · go_wp2_with fail
    go_ret2
    exact ⟨rfl, hb⟩
  rw [show modC true true = 0 from rfl]
  have hG := hbH.out.2 (by first | rfl | trivial)
  have hx0 : P64 p (mkp 64 f0) := hG.p64 (f := f0) (by simp) h0H.out
  have hx1 : P64 p (mkp 64 f1) := hG.p64 (f := f1) (by simp) h1H.out
  have hx2 : P64 p (mkp 64 f2) := hG.p64 (f := f2) (by simp) h2H.out
  have m2 := of_decide_eq_true hcH.out
  have n2 := m2.ne
  have hr := hrH.out (by first | rfl | trivial) (by first | rfl | trivial)
  have ea := u8s_mkp f0
  have eg := u8s_mkp f1
  have em := u8s_mkp f2
  obtain ⟨aa, ha⟩ : ∃ a, mkp 64 f0 = a := ⟨_, rfl⟩
  obtain ⟨gg, hg⟩ : ∃ a, mkp 64 f1 = a := ⟨_, rfl⟩
  obtain ⟨mm, hm⟩ : ∃ a, mkp 64 f2 = a := ⟨_, rfl⟩
  rw [ha] at hx0 hr ea
  rw [hg] at hx1 hr eg
  rw [hm] at hx2 m2 n2 hr em
  rw [ea] at hA
  rw [eg] at hB
  rw [em] at hD
  obtain ⟨W, hW⟩ : ∃ W, rst p aa mm = W := ⟨_, rfl⟩
  obtain ⟨V, hV⟩ : ∃ W, rst p gg mm = W := ⟨_, rfl⟩
  have hWP : P64 p W := hW ▸ rst_P64 hx0 hx2 n2
  have hVP : P64 p V := hV ▸ rst_P64 hx1 hx2 n2
  rw [hW, hV] at hr
  have hp2 := hx0.pr.pos
  obtain ⟨d, hd⟩ : ∃ d, mm.length = d + 1 := ⟨mm.length - 1, by have := m2.2.1; omega⟩
  have hd5 : d ≤ 5 := by have := m2.2.2; omega
  have hpw1 := ipow_pos hp2.1 d
  have hpw2 := ipow_le7 hx0.pr d
  have hpw3 : (7 : Int) ^ d ≤ 7 ^ 5 := ipow_mono (by omega) hd5
  have hpw4 : (7 : Int) ^ 5 = 16807 := by decide
  obtain ⟨N, hN⟩ : ∃ N : Nat, p ^ d = (N : Int) := Int.eq_ofNat_of_zero_le (by omega)
  rw [hd, Nat.add_sub_cancel, hN, Int.toNat_natCast] at hr
  have hNb : N ≤ 16807 := by omega
  have hlg := fun k => lgs_ok (base := V) hx0.pr hx2.po m2.2.1 k
  have hlgP : ∀ k, P64 p (lgs p V mm k) := fun k => ⟨hx0.pr, (hlg k).1, by have := (hlg k).2; have := m2.2.2; omega⟩
  have hro : ∀ (f : Nat → Int) (l : List Int) (w : World), By f → mkp 64 f = l → Calls Try.prog 31 #[.agg (u8s 64 (cf l))] w fun e w' => ∃ v, e = .returned v ∧ IsRow w' v l ∧ Below w.heap.size w w' := fun f l w hf e => by
    have := rowOf_any f w hf.on
    rw [e] at this
    rwa [u8s_mkp f, e] at this
  have s1 := fun w => hro f0 aa w h0H.out ha
  have s2 := fun w => hro f1 gg w h1H.out hg
  have s3 := fun w => hro f2 mm w h2H.out hm
  have s4 := fun va vm w (ha : IsRow w va aa) (hb : IsRow w vm mm) => rest_any va vm aa mm p w hx0.pr ha hb hx0.po hx2.po n2 (by have := hx0.le; omega) (by have := hx2.le; omega)
  rw [hW] at s4
  have s5 := fun va vm w (ha : IsRow w va gg) (hb : IsRow w vm mm) => rest_any va vm gg mm p w hx1.pr ha hb hx1.po hx2.po n2 (by have := hx1.le; omega) (by have := hx2.le; omega)
  rw [hV] at s5
  have s6 := fun w => norm_any p 1152921504606846976 d w hp2.1 (by omega) (by omega) (by omega)
  rw [hN] at s6
  have s7 := fun k va vb w (ha : IsRow w va (lgs p V mm k)) (hb : IsRow w vb V) => times_any va vb _ _ p w hx0.pr ha hb (hlgP k).po.md hVP.po.md (by have := (hlgP k).le; omega) (by have := hVP.le; omega)
  have s8 : ∀ k va vm w, IsRow w va (mulp p (lgs p V mm k) V) → IsRow w vm mm → Calls Try.prog 47 #[.int .i64 p, va, vm] w fun e w' => ∃ v, e = .returned v ∧ IsRow w' v (lgs p V mm (k + 1)) ∧ Below w.heap.size w w' := fun k va vm w ha hb =>
    rest_any va vm _ mm p w hx0.pr ha hb (mulp_Po (by omega) _ _) hx2.po n2 (by have := mulp_length_le p (lgs p V mm k) V; have := (hlgP k).le; have := hVP.le; omega) (by have := hx2.le; omega)
  have s9 := fun v w (h : IsRow w v mm) => degree_any v mm w h
  rw [hd, show ((d + 1 : Nat) : Int) - 1 = (d : Int) by omega] at s9
  have k1 := Lib.hid s1
  have k2 := Lib.hid s2
  have k3 := Lib.hid s3
  have k4 := Lib.hid s4
  have k5 := Lib.hid s5
  have k6 := Lib.hid s6
  have k7 := Lib.hid s7
  have k8 := Lib.hid s8
  have k9 := Lib.hid s9
  have hrr := Lib.hid hr
  clear s1 s2 s3 s4 s5 s6 s7 s8 s9 hro hr hlg hlgP hpw1 hpw2 hpw3 hpw4 hN hd hd5 hW hV hWP hVP hx0 hx1 hx2 m2 n2 ha hg hm ea eg em hG hbH hcH hrH h0H h1H h2H
  go_wp2_with ((with_reducible refine wpl_guard ?_); first | (refine wpl_load_arr rfl 26 _ rfl _ rfl _ _ hD _ _ uPoly sPoly ?_))
  refine (k3.out _).mono ?_
  rintro e u1 ⟨v1, rfl, hr, hn⟩
  have km := Lib.hid hr
  clear hr
  replace hA := hA.keep hn
  replace hB := hB.keep hn
  replace hb := below_step hb hn
  clear hn
  clear hD
  go_upto_region 5 with (fail)
  refine gen_region (ws := w) (w := _) (B := w.heap.size) (by kernel_rfl) (by kernel_rfl) (by kernel_rfl) (by kernel_rfl)
      (fun i => ([fun v _ => v = .int .i64 p, fun v _ => v = .agg (u8s 64 (cf aa)), fun v w => IsRow w v (aa), fun v w => IsRow w v (mm), fun v w => IsRow w v (W), fun v _ => v = .int .i64 p, fun v _ => v = .agg (u8s 64 (cf gg)), fun v w => IsRow w v (gg), fun v w => IsRow w v (mm), fun v w => IsRow w v (V), fun v w => IsRow w v (W), fun v w => IsRow w v (V)] : List (Value → World → Prop)).getD i (fun _ _ => True))
      (fun i => ([true, true, false, false, false, true, true, false, false, false, false, false] : List Bool).getD i true)
      0 (fun k => [].getD k 0) (fun k => [].getD k 0) (fun k => [].getD k 0) (fun k => [].getD k 0) (fun k => [].getD k 0) (fun k => [].getD k 0) (fun k => [].getD k (fun _ => 0)) (fun k => [].getD k (fun _ => 0)) (fun k => [].getD k 0) hb (Nat.le_refl _)
      (fun w' => Blk w' (w.heap.size) (u8s 64 (cf aa)) 26 ∧ Blk w' (w.heap.size + 1) (u8s 64 (cf gg)) 26 ∧ True) ⟨hA.drew, hB.drew, trivial⟩ (fun w1 w2 h hb => ⟨h.1.keep hb, h.2.1.keep hb, trivial⟩) ?_ ?_ ?_ ?_ ?_ ?_ ?_
  · exact fun k hk => absurd hk (by omega)
  · intro i v w1 w2 h hb
    rcases i with _|_|_|_|_|_|_|_|_|_|_|_|i
    · exact h
    · exact h
    · exact (show IsRow w1 v (aa) from h).below hb
    · exact (show IsRow w1 v (mm) from h).below hb
    · exact (show IsRow w1 v (W) from h).below hb
    · exact h
    · exact h
    · exact (show IsRow w1 v (gg) from h).below hb
    · exact (show IsRow w1 v (mm) from h).below hb
    · exact (show IsRow w1 v (V) from h).below hb
    · exact (show IsRow w1 v (W) from h).below hb
    · exact (show IsRow w1 v (V) from h).below hb
    · exact h
  · exact fun k hk => absurd hk (by omega)
  · exact fun k hk => absurd hk (by omega)
  · kernel_rfl
  · intro i o ho hz a w2 hBs hSx hBl hrd hpar
    rcases i with _|_|_|_|_|_|_|_|_|_|_|_|i
    · obtain rfl := Option.some.inj ho
      have e0 : a.eval (.tmp 0) = .int .i64 p := hpar 0 _ (by kernel_rfl) (by kernel_rfl)
      exact wpv_of (wp_move _ _ rfl e0) (fun _ _ => rfl)
    · obtain rfl := Option.some.inj ho
      exact wpv_of (wp_loadB 26 _ rfl _ (hpar 5 (.pointer (some ⟨w.heap.size, 0, none⟩)) (by kernel_rfl) (by kernel_rfl)) _ _ hSx.1 _ _ uPoly sPoly) (fun _ _ => rfl)
    · obtain rfl := Option.some.inj ho
      obtain ⟨_, e28⟩ : ∃ _w : World, a.eval (.tmp 28) = .agg (u8s 64 (cf aa)) := (hrd 1 _ 28 rfl rfl (by kernel_rfl) (by kernel_rfl) (by decide)).1
      exact wpv_call 31 [.tmp 28] _ rfl [.agg (u8s 64 (cf aa))] (by simp only [List.map_cons, List.map_nil, e28]) Try.call31 (k1.out w2)
    · obtain rfl := Option.some.inj ho
      have e11 : a.eval (.tmp 11) = v1 := hpar 11 _ (by kernel_rfl) (by kernel_rfl)
      have h11 := (km.out).below (hBl rfl)
      exact wpv_of (wp_move _ _ rfl e11) (fun w' hb => h11.below hb)
    · obtain rfl := Option.some.inj ho
      obtain ⟨_, e27⟩ : ∃ _w : World, a.eval (.tmp 27) = .int .i64 p := (hrd 0 _ 27 rfl rfl (by kernel_rfl) (by kernel_rfl) (by decide)).1
      have h29 : (fun v w => IsRow w v (aa)) (a.eval (.tmp 29)) w2 := (hrd 2 _ 29 rfl rfl (by kernel_rfl) (by kernel_rfl) (by decide)).2 rfl
      generalize e29 : a.eval (.tmp 29) = v29 at h29
      have h30 : (fun v w => IsRow w v (mm)) (a.eval (.tmp 30)) w2 := (hrd 3 _ 30 rfl rfl (by kernel_rfl) (by kernel_rfl) (by decide)).2 rfl
      generalize e30 : a.eval (.tmp 30) = v30 at h30
      exact wpv_call 47 [.tmp 27, .tmp 29, .tmp 30] _ rfl [.int .i64 p, v29, v30] (by simp only [List.map_cons, List.map_nil, e27, e29, e30]) Try.call47 (k4.out _ _ w2 h29 h30)
    · obtain rfl := Option.some.inj ho
      have e0 : a.eval (.tmp 0) = .int .i64 p := hpar 0 _ (by kernel_rfl) (by kernel_rfl)
      exact wpv_of (wp_move _ _ rfl e0) (fun _ _ => rfl)
    · obtain rfl := Option.some.inj ho
      exact wpv_of (wp_loadB 26 _ rfl _ (hpar 6 (.pointer (some ⟨w.heap.size + 1, 0, none⟩)) (by kernel_rfl) (by kernel_rfl)) _ _ hSx.2.1 _ _ uPoly sPoly) (fun _ _ => rfl)
    · obtain rfl := Option.some.inj ho
      obtain ⟨_, e33⟩ : ∃ _w : World, a.eval (.tmp 33) = .agg (u8s 64 (cf gg)) := (hrd 6 _ 33 rfl rfl (by kernel_rfl) (by kernel_rfl) (by decide)).1
      exact wpv_call 31 [.tmp 33] _ rfl [.agg (u8s 64 (cf gg))] (by simp only [List.map_cons, List.map_nil, e33]) Try.call31 (k2.out w2)
    · obtain rfl := Option.some.inj ho
      have e11 : a.eval (.tmp 11) = v1 := hpar 11 _ (by kernel_rfl) (by kernel_rfl)
      have h11 := (km.out).below (hBl rfl)
      exact wpv_of (wp_move _ _ rfl e11) (fun w' hb => h11.below hb)
    · obtain rfl := Option.some.inj ho
      obtain ⟨_, e32⟩ : ∃ _w : World, a.eval (.tmp 32) = .int .i64 p := (hrd 5 _ 32 rfl rfl (by kernel_rfl) (by kernel_rfl) (by decide)).1
      have h34 : (fun v w => IsRow w v (gg)) (a.eval (.tmp 34)) w2 := (hrd 7 _ 34 rfl rfl (by kernel_rfl) (by kernel_rfl) (by decide)).2 rfl
      generalize e34 : a.eval (.tmp 34) = v34 at h34
      have h35 : (fun v w => IsRow w v (mm)) (a.eval (.tmp 35)) w2 := (hrd 8 _ 35 rfl rfl (by kernel_rfl) (by kernel_rfl) (by decide)).2 rfl
      generalize e35 : a.eval (.tmp 35) = v35 at h35
      exact wpv_call 47 [.tmp 32, .tmp 34, .tmp 35] _ rfl [.int .i64 p, v34, v35] (by simp only [List.map_cons, List.map_nil, e32, e34, e35]) Try.call47 (k5.out _ _ w2 h34 h35)
    · obtain rfl := Option.some.inj ho
      have h31 : (fun v w => IsRow w v (W)) (a.eval (.tmp 31)) w2 := (hrd 4 _ 31 rfl rfl (by kernel_rfl) (by kernel_rfl) (by decide)).2 rfl
      generalize e31 : a.eval (.tmp 31) = v31 at h31
      exact wpv_of (wp_assign _ _ rfl e31) (fun w' hb => h31.below hb)
    · obtain rfl := Option.some.inj ho
      have h36 : (fun v w => IsRow w v (V)) (a.eval (.tmp 36)) w2 := (hrd 9 _ 36 rfl rfl (by kernel_rfl) (by kernel_rfl) (by decide)).2 rfl
      generalize e36 : a.eval (.tmp 36) = v36 at h36
      exact wpv_of (wp_assign _ _ rfl e36) (fun w' hb => h36.below hb)
    · simp at ho
  intro vals xE hBx hSx hS0 hcs hrs
  obtain ⟨hBl, hc0⟩ := hS0 rfl
  have e0 : vals 0 = .int .i64 p := hc0 0 (by simp)
  have e1 : vals 1 = .agg (u8s 64 (cf aa)) := hc0 1 (by simp)
  have cE2 : (fun v w => IsRow w v (aa)) (vals 2) xE := hc0 2 (by simp)
  generalize ev2 : vals 2 = uE2 at cE2
  have cE3 : (fun v w => IsRow w v (mm)) (vals 3) xE := hc0 3 (by simp)
  generalize ev3 : vals 3 = uE3 at cE3
  have cE4 : (fun v w => IsRow w v (W)) (vals 4) xE := hc0 4 (by simp)
  generalize ev4 : vals 4 = uE4 at cE4
  have e5 : vals 5 = .int .i64 p := hc0 5 (by simp)
  have e6 : vals 6 = .agg (u8s 64 (cf gg)) := hc0 6 (by simp)
  have cE7 : (fun v w => IsRow w v (gg)) (vals 7) xE := hc0 7 (by simp)
  generalize ev7 : vals 7 = uE7 at cE7
  have cE8 : (fun v w => IsRow w v (mm)) (vals 8) xE := hc0 8 (by simp)
  generalize ev8 : vals 8 = uE8 at cE8
  have cE9 : (fun v w => IsRow w v (V)) (vals 9) xE := hc0 9 (by simp)
  generalize ev9 : vals 9 = uE9 at cE9
  have cE10 : (fun v w => IsRow w v (W)) (vals 10) xE := hc0 10 (by simp)
  generalize ev10 : vals 10 = uE10 at cE10
  have cE11 : (fun v w => IsRow w v (V)) (vals 11) xE := hc0 11 (by simp)
  generalize ev11 : vals 11 = uE11 at cE11
  simp only [List.length_cons, List.length_nil, Nat.zero_add, Nat.reduceAdd, List.replicate, putAll, if_true, Act.put, List.setIfInBounds_toArray, List.set_cons_zero, List.set_cons_succ, e0, e1, ev2, ev3, ev4, e5, e6, ev7, ev8, ev9, ev10, ev11]
  replace hA := hSx.1
  replace hB := hSx.2.1
  clear hcs hrs hS0 hSx e0 e1 ev2 ev3 ev4 e5 e6 ev7 ev8 ev9 ev10 ev11 hc0
  have kw := Lib.hid cE10
  have kv := Lib.hid cE11
  replace km := Lib.hid (km.out.below hBl)
  replace hb := hBx
  clear hBl hBx hA hB cE2 cE3 cE4 cE7 cE8 cE9 cE10 cE11
  go_wp2_with fail
  have hnl := below_new xE (Obj.cells #[Value.int IntKind.i64 1] 2)
  have kx := Lib.hid (IsRow_one _ _ _ ((Blk.new xE #[Value.int IntKind.i64 1] 2).cell 0))
  replace km := Lib.hid (km.out.below hnl)
  replace kw := Lib.hid (kw.out.below hnl)
  replace kv := Lib.hid (kv.out.below hnl)
  replace hb := below_step hb hnl
  clear hnl
  refine (k9.out _ _ km.out).mono ?_
  rintro e u2 ⟨rfl, rfl⟩
  go_wp2_with fail
  refine (k6.out _).mono ?_
  rintro e u1 ⟨rfl, rfl⟩
  obtain ⟨wl, hwl⟩ : ∃ wl, wl = xE.alloc (Obj.cells #[Value.int IntKind.i64 1] 2) := ⟨_, rfl⟩
  have kx' : Hid (IsRow (xE.alloc (Obj.cells #[Value.int IntKind.i64 1] 2)) (.slice (some ⟨xE.heap.size, 0, none⟩) 1 1) (lgs p V mm 0)) := kx
  clear kx
  rw [← hwl] at km kw kv hb kx' ⊢
  clear hwl
  go_wp2_with fail
  go_loopw [14, 42] (fun x i wr => ∃ k : Nat, k ≤ N ∧ i = .int .i64 k ∧ Hid (IsRow wr x (lgs p V mm k)) ∧ (∀ j, j < k → lgs p V mm j ≠ W) ∧ Below wl.heap.size wl wr) (fun _ i _ => N + 2 - (intOf i).toNat)
  case atStart => exact ⟨0, by omega, rfl, kx', fun j hj => absurd hj (by omega), Below.refl _ _⟩
  case round =>
    clear kx'
    obtain ⟨k, hk, rfl, kx, hall, hl⟩ := hrel
    have hallH := Lib.hid hall
    clear hall
    have rm := Lib.hid (km.out.below hl)
    have rw_ := Lib.hid (kw.out.below hl)
    have rv := Lib.hid (kv.out.below hl)
    by_cases hlt : k < N
    · have hlt2 : (k : Int) < (N : Int) := by omega
      by_cases heq : lgs p V mm k = W
      · have hres := hrr.out.hit (by omega) heq hallH.out
        subst hres
        have hq := Lib.hid (decide_eq_true heq)
        clear heq
        go_wp2_with fail
        refine (equalRows_any _ _ _ _ _ kx.out rw_.out true hq.out).mono ?_
        rintro e u3 ⟨rfl, hn⟩
        replace hl := below_step hl hn
        clear hn
        go_wp2_with fail
        go_ret2
        exact ⟨rfl, below_step hb hl⟩
      · have hq := Lib.hid (decide_eq_false heq)
        have heqH := Lib.hid heq
        clear heq
        go_wp2_with fail
        refine (equalRows_any _ _ _ _ _ kx.out rw_.out false hq.out).mono ?_
        rintro e u3 ⟨rfl, hn⟩
        replace kx := Lib.hid (kx.out.below hn)
        replace rm := Lib.hid (rm.out.below hn)
        replace rv := Lib.hid (rv.out.below hn)
        replace hl := below_step hl hn
        clear hn rw_
        go_wp2_with fail
        refine (k7.out k _ _ _ kx.out rv.out).mono ?_
        rintro e u4 ⟨v4, rfl, hr, hn⟩
        have ky := Lib.hid hr
        replace rm := Lib.hid (rm.out.below hn)
        replace hl := below_step hl hn
        clear hr hn
        go_wp2_with fail
        refine (k8.out k _ _ _ ky.out rm.out).mono ?_
        rintro e u5 ⟨v5, rfl, hr, hn⟩
        have kz := Lib.hid hr
        replace hl := below_step hl hn
        clear hr hn
        go_wp2_with fail
        go_roundw
        case rel => exact ⟨k + 1, by omega, by go_num, kz, fun j hj => by
          by_cases e1 : j = k
          · subst e1; exact heqH.out
          · exact hallH.out j (by omega), hl⟩
        case measure => simp [intOf] <;> omega
    · have hlt2 : ¬ (k : Int) < (N : Int) := by omega
      have hres := hrr.out.end fun j hj => hallH.out j (by omega)
      subst hres
      go_wp2_with fail
      go_ret2
      exact ⟨rfl, below_step hb hl⟩

theorem LogarithmOf_pair (p : Int) (f0 f1 f2 : Nat → Int) (_ : (Lit.int .i64 p).wf = true) (h0 : By f0) (h1 : By f1) (h2 : By f2) : ∃ (r0 r1 : Int),
    (∀ w, Calls Try.prog 22 #[.int .i64 p, .agg (u8s 64 f0), .agg (u8s 64 f1), .agg (u8s 64 f2)] w fun e w' => e = .returned (.tuple #[.int .i64 r0, .int .i64 r1]) ∧ Below w.heap.size w w') ∧
    (∀ w, Calls Try.prog 23 #[.int .i64 p, .agg (u8s 64 f0), .agg (u8s 64 f1), .agg (u8s 64 f2)] w fun e w' => e = .returned (.tuple #[.int .i64 r0, .int .i64 r1]) ∧ Below w.heap.size w w') := by
  obtain ⟨b, hb⟩ := dec_true (Good p [f2, f0, f1])
  obtain ⟨c, hc⟩ : ∃ c, decide (Mon (mkp 64 f2)) = c := ⟨_, rfl⟩
  have hr : ∃ r, b = true → c = true → LgR p (rst p (mkp 64 f1) (mkp 64 f2)) (mkp 64 f2) (rst p (mkp 64 f0) (mkp 64 f2)) ((p ^ ((mkp 64 f2).length - 1)).toNat) r := by
    cases b
    · exact ⟨none, fun h => by cases h⟩
    · cases c
      · exact ⟨none, fun _ h => by cases h⟩
      · have hG := hb.2 rfl
        have hx2 : P64 p (mkp 64 f2) := hG.p64 (f := f2) (by simp) h2
        have m2 := of_decide_eq_true hc
        obtain ⟨r, hr⟩ := LgR.is (want := rst p (mkp 64 f0) (mkp 64 f2)) (base := rst p (mkp 64 f1) (mkp 64 f2)) hG.1 hx2.po m2.2.1 (N := (p ^ ((mkp 64 f2).length - 1)).toNat) (by have := ipow_pos hG.1.pos.1 ((mkp 64 f2).length - 1); omega)
        exact ⟨r, fun _ _ => hr⟩
  obtain ⟨r, hr⟩ := hr
  exact ⟨_, _, fun w => specLogarithmOf_any f0 f1 f2 p b c r w h0 h1 h2 hb hc hr, fun w => implLogarithmOf_any f0 f1 f2 p b c r w h0 h1 h2 hb hc hr⟩
end Go.Proofs.Ytionaenmjndncaa

/- Walks: powers modulo a polynomial on both sides. -/
import Derived.Test.YthkkicanockhgaaC3
import Derived.Test.YthkkicanockhgaaS7
import Derived.Test.YthkkicanockhgaaA8
set_option linter.unusedVariables false
set_option linter.unusedSimpArgs false
namespace Go.Proofs.Ythkkicanockhgaa
open Go.RowKit

theorem isNumber_any (n : Int) (w : World) (b : Bool) (hb : decide (0 ≤ n ∧ n ≤ 1000000000000) = b) : Calls Try.prog 69 #[.int .i64 n] w fun e w' => e = .returned (.bool b) ∧ w = w' := by
  have H := Lib.hid (fun w => within_any n 0 1000000000000 w b hb)
  clear hb
  go_enter Try.func69, Try.ntmps69
  go_wp2_with (go_at_call 89; refine (H.out _).mono ?_; rintro e w' ⟨rfl, rfl⟩)
  go_ret
  exact ⟨rfl, rfl⟩

set_option maxRecDepth 20000 in
set_option maxHeartbeats 2000000 in
theorem specPowerModulo_any (p : Int) (f : Nat → Int) (k : Int) (g : Nat → Int) (w : World) (hf : By f) (hg : By g) (b : Bool) (hb : Good p [f, g] ↔ b = true) (c : Bool) (hc : decide (0 ≤ k ∧ k ≤ 1000000000000) = c) (z : Bool) (hz : decide ((mkp 64 g).length = 0) = z) :
    Calls Try.prog 40 #[.int .i64 p, .agg (u8s 64 f), .int .i64 k, .agg (u8s 64 g)] w fun e w' => e = .returned (.tuple #[.agg (u8s 64 (if b then (if c then (if z then (fun _ => 0) else cf (powp p (mkp 64 f) k.toNat (mkp 64 g))) else fun _ => 0) else fun _ => 0)), .int .i64 (if b then (if c then (if z then 5 else 0) else 2) else 1)]) ∧ Below w.heap.size w w' := by
  obtain ⟨M, hM⟩ : ∃ M, powp p (mkp 64 f) k.toNat (mkp 64 g) = M := ⟨_, rfl⟩
  rw [hM]
  have hMM := Lib.hid hM
  have hcH := Lib.hid hc
  have hzH := Lib.hid hz
  clear hM hc hz
  have hfH := Lib.hid hf; clear hf
  have hgH := Lib.hid hg; clear hg
  have hbH := Lib.hid hb; clear hb
  obtain ⟨hb0, hA, hB, hZ⟩ := boxes3 w (u8s 64 f) (u8s 64 g) (u8s 64 fun _ => 0) 23 23 23
  go_enter Try.func40, Try.ntmps40
  go_wp2_with (first | (refine wpl_alloc_arr rfl 23 rfl _ zPoly ?_) | (refine wpl_load_arr rfl 23 _ rfl _ rfl _ _ hA _ _ uPoly sPoly ?_) | (refine wpl_load_arr rfl 23 _ rfl _ rfl _ _ hB _ _ uPoly sPoly ?_) | (refine wpl_buildSlice_polys rfl 83 23 2 _ rfl Try.underlying83 sPoly zPoly [f, g] rfl (by decide) (by decide) rfl ?_))
  refine (l01Code_lit [f, g] 2 128 rfl rfl (by omega) p _ _ _ (Blk.newAt (by simp) _ _) (by2 hfH.out hgH.out) b hbH.out).mono ?_
  rintro e w1 ⟨rfl, hb1⟩
  have hb2 := below_step hb0 (below_step (below_new _ _) hb1)
  have hA1 := (hA.alloc _).keep hb1
  have hB1 := (hB.alloc _).keep hb1
  have hZ1 := (hZ.alloc _).keep hb1
  clear hA hB hZ hb0 hb1
  cases b
  · go_wp2_with (first | (refine wpl_build_zero rfl 23 64 5 rfl _ uPoly sByte zPoly ?_) | (refine wpl_store_arr rfl 23 _ _ rfl _ rfl _ rfl _ _ hZ1 sPoly rfl (u8s_oneCell _ _) ?_))
    exact bodyPost_ret (res_ct rfl rfl (hZ1.setRow_same (cs := u8s 64 fun _ => 0)) uPoly sPoly rfl) rfl ⟨rfl, below_setRow hb2 (by omega) _⟩
  · have hG := hbH.out.2 rfl
    have hxH := Lib.hid (hG.p64 (f := f) (by simp) hfH.out)
    have hyH := Lib.hid (hG.p64 (f := g) (by simp) hgH.out)
    clear hG
    cases c
    · go_wp2_with (first | (go_at_call 67; refine (l01In_any _ _ _ _ _ hcH.out).mono ?_; rintro e w' ⟨rfl, rfl⟩) | ((with_reducible refine wpl_guard ?_); first | (refine wpl_build_zero rfl 23 64 5 rfl _ uPoly sByte zPoly ?_) | (refine wpl_store_arr rfl 23 _ _ rfl _ rfl _ rfl _ _ hZ1 sPoly (by simp only [u8s_size]) (u8s_oneCell _ _) ?_)))
      exact bodyPost_ret (res_ct (x := .int .i64 2) rfl rfl (hZ1.setRow_same (cs := u8s 64 fun _ => 0)) uPoly sPoly rfl) rfl ⟨rfl, below_setRow hb2 (by omega) _⟩
    · have hcT := Lib.hid hcH.out
      have hck := of_decide_eq_true hcH.out
      obtain ⟨n, rfl⟩ := Int.eq_ofNat_of_zero_le hck.1
      have hn12 := Lib.hid (show n ≤ 1000000000000 by have := hck.2; omega)
      rw [Int.toNat_natCast] at hMM
      clear hck hcH
      have hdg := Lib.hid (fun w => l01Deg_any g w fun i _ => hgH.out i)
      cases z
      · have hne := of_decide_eq_false hzH.out
        have hneH := Lib.hid (show mkp 64 g ≠ [] from fun e => hne (by rw [e]; rfl))
        have hge : ¬ ((mkp 64 g).length : Int) - 1 < 0 := by omega
        have hpw : ∀ w, Calls Try.prog 76 #[.int .i64 p, .agg (u8s 64 f), .int .i64 n, .agg (u8s 64 g)] w fun e w' => e = .returned (.agg (u8s 64 (cf M))) ∧ Below w.heap.size w w' := fun w => by
          have := l01PowMod_any _ _ n p w hxH.out hyH.out hneH.out hn12.out
          rwa [hMM.out, ← u8s_mkp, ← u8s_mkp] at this
        have hpwH := Lib.hid hpw
        clear hpw hne
        go_wp2_with (first | (go_at_call 67; refine (l01In_any _ _ _ _ _ hcT.out).mono ?_; rintro e w' ⟨rfl, rfl⟩) | ((with_reducible refine wpl_guard ?_); first | (refine wpl_load_arr rfl 23 _ rfl _ rfl _ _ hA1 _ _ uPoly sPoly ?_) | (refine wpl_load_arr rfl 23 _ rfl _ rfl _ _ hB1 _ _ uPoly sPoly ?_)))
        refine (hdg.out _).mono ?_
        rintro e w2 ⟨rfl, hn⟩
        replace hA1 := hA1.keep hn
        replace hB1 := hB1.keep hn
        replace hZ1 := hZ1.keep hn
        replace hb2 := below_step hb2 hn
        clear hn
        go_wp2_with ((with_reducible refine wpl_guard ?_); first | (refine wpl_load_arr rfl 23 _ rfl _ rfl _ _ hA1 _ _ uPoly sPoly ?_) | (refine wpl_load_arr rfl 23 _ rfl _ rfl _ _ hB1 _ _ uPoly sPoly ?_))
        refine (hpwH.out _).mono ?_
        rintro e w3 ⟨rfl, hn⟩
        replace hZ1 := hZ1.keep hn
        replace hb2 := below_step hb2 hn
        clear hn
        go_wp2_with ((with_reducible refine wpl_guard ?_); first | (refine wpl_store_arr rfl 23 _ _ rfl _ rfl _ rfl _ _ hZ1 sPoly (by simp only [u8s_size]) (u8s_oneCell _ _) ?_))
        exact bodyPost_ret (res_ct (x := .int .i64 0) rfl rfl (hZ1.setRow_same (cs := u8s 64 (cf M))) uPoly sPoly rfl) rfl ⟨rfl, below_setRow hb2 (by omega) _⟩
      · have hlt : ((mkp 64 g).length : Int) - 1 < 0 := by have := of_decide_eq_true hzH.out; omega
        go_wp2_with (first | (go_at_call 67; refine (l01In_any _ _ _ _ _ hcT.out).mono ?_; rintro e w' ⟨rfl, rfl⟩) | ((with_reducible refine wpl_guard ?_); first | (refine wpl_load_arr rfl 23 _ rfl _ rfl _ _ hA1 _ _ uPoly sPoly ?_) | (refine wpl_load_arr rfl 23 _ rfl _ rfl _ _ hB1 _ _ uPoly sPoly ?_)))
        refine (hdg.out _).mono ?_
        rintro e w2 ⟨rfl, hn⟩
        replace hZ1 := hZ1.keep hn
        replace hb2 := below_step hb2 hn
        clear hn
        go_wp2_with ((with_reducible refine wpl_guard ?_); first | (refine wpl_build_zero rfl 23 64 5 rfl _ uPoly sByte zPoly ?_) | (refine wpl_store_arr rfl 23 _ _ rfl _ rfl _ rfl _ _ hZ1 sPoly (by simp only [u8s_size]) (u8s_oneCell _ _) ?_))
        exact bodyPost_ret (res_ct (x := .int .i64 5) rfl rfl (hZ1.setRow_same (cs := u8s 64 fun _ => 0)) uPoly sPoly rfl) rfl ⟨rfl, below_setRow hb2 (by omega) _⟩

set_option maxRecDepth 20000 in
set_option maxHeartbeats 2000000 in
theorem implPowerModulo_any (p : Int) (f : Nat → Int) (k : Int) (g : Nat → Int) (w : World) (hf : By f) (hg : By g) (b : Bool) (hb : Good p [f, g] ↔ b = true) (c : Bool) (hc : decide (0 ≤ k ∧ k ≤ 1000000000000) = c) (z : Bool) (hz : decide ((mkp 64 g).length = 0) = z) :
    Calls Try.prog 41 #[.int .i64 p, .agg (u8s 64 f), .int .i64 k, .agg (u8s 64 g)] w fun e w' => e = .returned (.tuple #[.agg (u8s 64 (if b then (if c then (if z then (fun _ => 0) else cf (powp p (mkp 64 f) k.toNat (mkp 64 g))) else fun _ => 0) else fun _ => 0)), .int .i64 (if b then (if c then (if z then 5 else 0) else 2) else 1)]) ∧ Below w.heap.size w w' := by
  obtain ⟨M, hM⟩ : ∃ M, powp p (mkp 64 f) k.toNat (mkp 64 g) = M := ⟨_, rfl⟩
  rw [hM]
  have hMM := Lib.hid hM
  have hcH := Lib.hid hc
  have hzH := Lib.hid hz
  clear hM hc hz
  have hfH := Lib.hid hf; clear hf
  have hgH := Lib.hid hg; clear hg
  have hbH := Lib.hid hb; clear hb
  obtain ⟨hb0, hA, hB, hZ⟩ := boxes3 w (u8s 64 f) (u8s 64 g) (u8s 64 fun _ => 0) 23 23 23
  go_enter Try.func41, Try.ntmps41
  go_wp2_with (first | (refine wpl_alloc_arr rfl 23 rfl _ zPoly ?_) | (refine wpl_load_arr rfl 23 _ rfl _ rfl _ _ hA _ _ uPoly sPoly ?_) | (refine wpl_load_arr rfl 23 _ rfl _ rfl _ _ hB _ _ uPoly sPoly ?_) | (refine wpl_buildSlice_polys rfl 83 23 2 _ rfl Try.underlying83 sPoly zPoly [f, g] rfl (by decide) (by decide) rfl ?_))
  refine (polysCode_lit [f, g] 2 128 rfl rfl (by omega) p _ _ _ (Blk.newAt (by simp) _ _) (by2 hfH.out hgH.out) b hbH.out).mono ?_
  rintro e w1 ⟨rfl, hb1⟩
  have hb2 := below_step hb0 (below_step (below_new _ _) hb1)
  have hA1 := (hA.alloc _).keep hb1
  have hB1 := (hB.alloc _).keep hb1
  have hZ1 := (hZ.alloc _).keep hb1
  clear hA hB hZ hb0 hb1
  cases b
  · go_wp2_with (first | (refine wpl_build_zero rfl 23 64 5 rfl _ uPoly sByte zPoly ?_) | (refine wpl_store_arr rfl 23 _ _ rfl _ rfl _ rfl _ _ hZ1 sPoly rfl (u8s_oneCell _ _) ?_))
    exact bodyPost_ret (res_ct rfl rfl (hZ1.setRow_same (cs := u8s 64 fun _ => 0)) uPoly sPoly rfl) rfl ⟨rfl, below_setRow hb2 (by omega) _⟩
  · have hG := hbH.out.2 rfl
    have hxH := Lib.hid (hG.p64 (f := f) (by simp) hfH.out)
    have hyH := Lib.hid (hG.p64 (f := g) (by simp) hgH.out)
    clear hG
    cases c
    · go_wp2_with (first | (go_at_call 69; refine (isNumber_any _ _ _ hcH.out).mono ?_; rintro e w' ⟨rfl, rfl⟩) | ((with_reducible refine wpl_guard ?_); first | (refine wpl_build_zero rfl 23 64 5 rfl _ uPoly sByte zPoly ?_) | (refine wpl_store_arr rfl 23 _ _ rfl _ rfl _ rfl _ _ hZ1 sPoly (by simp only [u8s_size]) (u8s_oneCell _ _) ?_)))
      exact bodyPost_ret (res_ct (x := .int .i64 2) rfl rfl (hZ1.setRow_same (cs := u8s 64 fun _ => 0)) uPoly sPoly rfl) rfl ⟨rfl, below_setRow hb2 (by omega) _⟩
    · have hcT := Lib.hid hcH.out
      have hck := of_decide_eq_true hcH.out
      obtain ⟨n, rfl⟩ := Int.eq_ofNat_of_zero_le hck.1
      have hn12 := Lib.hid (show n ≤ 1000000000000 by have := hck.2; omega)
      rw [Int.toNat_natCast] at hMM
      clear hck hcH
      cases z
      · have hneH := Lib.hid (show mkp 64 g ≠ [] from fun e => of_decide_eq_false hzH.out (by rw [e]; rfl))
        have hMP := pwl_Po hxH.out.pr hyH.out.po hneH.out n _ _ (rst_P64 (P64.one hxH.out.pr) hyH.out hneH.out).po (rst_lt hxH.out.pr (P64.one hxH.out.pr).po hyH.out.po hneH.out) (rst_P64 hxH.out hyH.out hneH.out).po (rst_lt hxH.out.pr hxH.out.po hyH.out.po hneH.out)
        have hMP2 : Po p M ∧ M.length ≤ 64 := by
          have h5 : powp p (mkp 64 f) n (mkp 64 g) = M := hMM.out
          unfold powp at h5
          rw [h5] at hMP
          exact ⟨hMP.1, by have := hyH.out.le; have := hMP.2; omega⟩
        have hMH := Lib.hid hMP2
        have hpw : ∀ (va vm : Value) (w : World), IsRow w va (mkp 64 f) → IsRow w vm (mkp 64 g) → Calls Try.prog 71 #[.int .i64 p, va, .int .i64 n, vm] w fun e w' => ∃ v, e = .returned v ∧ IsRow w' v M ∧ Below w.heap.size w w' := fun va vm w h1 h2 => by
          have := power_any va vm _ _ n p w hxH.out.pr h1 h2 hxH.out.po hyH.out.po hneH.out (by have := hxH.out.le; omega) hyH.out.le hn12.out
          rwa [hMM.out] at this
        have htd : ∀ (v : Value) (w : World), IsRow w v M → Calls Try.prog 47 #[v] w fun e w' => ∃ u, e = .returned u ∧ u = .tuple #[.agg (u8s 64 (cf M)), .int .i64 0] ∧ Below w.heap.size w w' := fun v w h => by
          have := told_any v M w h (fun i => By_of_Po hxH.out.pr hMP2.1 i)
          rw [show toldF M = cf M from if_pos hMP2.2, show toldC M = 0 from if_pos hMP2.2] at this
          exact this.mono fun _ _ ⟨h1, h2⟩ => ⟨_, h1, rfl, h2⟩
        have hpwH := Lib.hid hpw
        have htdH := Lib.hid htd
        clear hpw htd hMP hMP2
        go_upto_region 8 with (first | (go_at_call 69; refine (isNumber_any _ _ _ hcT.out).mono ?_; rintro e w' ⟨rfl, rfl⟩) | ((with_reducible refine wpl_guard ?_); first | (refine wpl_load_arr rfl 23 _ rfl _ rfl _ _ hB1 _ _ uPoly sPoly ?_) | (refine wpl_build_zero rfl 23 64 5 rfl _ uPoly sByte zPoly ?_) | (refine wpl_eql_arr rfl 23 _ _ _ rfl 64 .u8 g (fun _ => 0) 5 rfl rfl uPoly uByte sByte gPoly _ (mkp_zero_dec g hzH.out) ?_)))
        refine gen_region (ws := w) (w := _) (B := w.heap.size) (by kernel_rfl) (by kernel_rfl) (by kernel_rfl) (by kernel_rfl)
            (fun i => ([fun v _ => v = .int .i64 p, fun v _ => v = .agg (u8s 64 f), fun v w => IsRow w v (mkp 64 f), fun v _ => v = .int .i64 n, fun v _ => v = .agg (u8s 64 g), fun v w => IsRow w v (mkp 64 g), fun v w => IsRow w v (M), fun v _ => v = .tuple #[.agg (u8s 64 (cf M)), .int .i64 0], fun v _ => v = .agg (u8s 64 (cf M)), fun v _ => v = .int .i64 0, fun _ _ => True, fun v _ => v = .int .i64 0] : List (Value → World → Prop)).getD i (fun _ _ => True))
            (fun i => ([true, true, false, true, true, false, false, false, true, true, true, true] : List Bool).getD i true)
            1 (fun k => [10].getD k 0) (fun k => [8].getD k 0) (fun k => [8].getD k 0) (fun k => [38].getD k 0) (fun k => [w.heap.size + 1 + 1].getD k 0) (fun k => [64].getD k 0) (fun k => [(cf M)].getD k (fun _ => 0)) (fun k => [(fun _ => 0)].getD k (fun _ => 0)) (fun k => [23].getD k 0) hb2 (Nat.le_refl _)
            (fun w' => Blk w' (w.heap.size) (u8s 64 f) 23 ∧ Blk w' (w.heap.size + 1) (u8s 64 g) 23 ∧ True) ⟨hA1.drew, hB1.drew, trivial⟩ (fun w1 w2 h hb => ⟨h.1.keep hb, h.2.1.keep hb, trivial⟩) ?_ ?_ ?_ ?_ ?_ ?_ ?_
        · intro k hk w1 cs h
          rcases k with _|k
          · exact ⟨h.1.setRow_other (by simp only [List.getD_cons_zero, List.getD_cons_succ] <;> omega), h.2.1.setRow_other (by simp only [List.getD_cons_zero, List.getD_cons_succ] <;> omega), trivial⟩
          · omega
        · intro i v w1 w2 h hb
          rcases i with _|_|_|_|_|_|_|_|_|_|_|_|i
          · exact h
          · exact h
          · exact (show IsRow w1 v (mkp 64 f) from h).below hb
          · exact h
          · exact h
          · exact (show IsRow w1 v (mkp 64 g) from h).below hb
          · exact (show IsRow w1 v (M) from h).below hb
          · exact h
          · exact h
          · exact h
          · exact h
          · exact h
          · exact h
        · intro k hk
          rcases k with _|k
          · kernel_rfl
          · omega
        · intro k hk
          rcases k with _|k
          · refine ⟨?_, (by kernel_rfl), hZ1, fun v w' h => h, by decide, ?_⟩
            · simp only [List.getD_cons_zero, List.getD_cons_succ] <;> omega
            · intro k' hk' hne
              rcases k' with _|k'
              all_goals first | omega | exact absurd rfl hne | (refine ⟨?_, by decide⟩; simp only [List.getD_cons_zero, List.getD_cons_succ]; omega)
          · omega
        · kernel_rfl
        · intro i o ho hz a w2 hBs hSx hBl hrd hpar
          rcases i with _|_|_|_|_|_|_|_|_|_|_|_|i
          · obtain rfl := Option.some.inj ho
            have e0 : a.eval (.tmp 0) = .int .i64 p := hpar 0 _ (by kernel_rfl) (by kernel_rfl)
            exact wpv_of (wp_move _ _ rfl e0) (fun _ _ => rfl)
          · obtain rfl := Option.some.inj ho
            exact wpv_of (wp_loadB 23 _ rfl _ (hpar 5 (.pointer (some ⟨w.heap.size, 0, none⟩)) (by kernel_rfl) (by kernel_rfl)) _ _ hSx.1 _ _ uPoly sPoly) (fun _ _ => rfl)
          · obtain rfl := Option.some.inj ho
            obtain ⟨_, e31⟩ : ∃ _w : World, a.eval (.tmp 31) = .agg (u8s 64 f) := (hrd 1 _ 31 rfl rfl (by kernel_rfl) (by kernel_rfl) (by decide)).1
            exact wpv_call 49 [.tmp 31] _ rfl [.agg (u8s 64 f)] (by simp only [List.map_cons, List.map_nil, e31]) Try.call49 (rowOf_any f w2 hfH.out.on)
          · obtain rfl := Option.some.inj ho
            have e2 : a.eval (.tmp 2) = .int .i64 n := hpar 2 _ (by kernel_rfl) (by kernel_rfl)
            exact wpv_of (wp_move _ _ rfl e2) (fun _ _ => rfl)
          · obtain rfl := Option.some.inj ho
            exact wpv_of (wp_loadB 23 _ rfl _ (hpar 7 (.pointer (some ⟨w.heap.size + 1, 0, none⟩)) (by kernel_rfl) (by kernel_rfl)) _ _ hSx.2.1 _ _ uPoly sPoly) (fun _ _ => rfl)
          · obtain rfl := Option.some.inj ho
            obtain ⟨_, e34⟩ : ∃ _w : World, a.eval (.tmp 34) = .agg (u8s 64 g) := (hrd 4 _ 34 rfl rfl (by kernel_rfl) (by kernel_rfl) (by decide)).1
            exact wpv_call 49 [.tmp 34] _ rfl [.agg (u8s 64 g)] (by simp only [List.map_cons, List.map_nil, e34]) Try.call49 (rowOf_any g w2 hgH.out.on)
          · obtain rfl := Option.some.inj ho
            obtain ⟨_, e30⟩ : ∃ _w : World, a.eval (.tmp 30) = .int .i64 p := (hrd 0 _ 30 rfl rfl (by kernel_rfl) (by kernel_rfl) (by decide)).1
            have h32 : (fun v w => IsRow w v (mkp 64 f)) (a.eval (.tmp 32)) w2 := (hrd 2 _ 32 rfl rfl (by kernel_rfl) (by kernel_rfl) (by decide)).2 rfl
            generalize e32 : a.eval (.tmp 32) = v32 at h32
            obtain ⟨_, e33⟩ : ∃ _w : World, a.eval (.tmp 33) = .int .i64 n := (hrd 3 _ 33 rfl rfl (by kernel_rfl) (by kernel_rfl) (by decide)).1
            have h35 : (fun v w => IsRow w v (mkp 64 g)) (a.eval (.tmp 35)) w2 := (hrd 5 _ 35 rfl rfl (by kernel_rfl) (by kernel_rfl) (by decide)).2 rfl
            generalize e35 : a.eval (.tmp 35) = v35 at h35
            exact wpv_call 71 [.tmp 30, .tmp 32, .tmp 33, .tmp 35] _ rfl [.int .i64 p, v32, .int .i64 n, v35] (by simp only [List.map_cons, List.map_nil, e30, e32, e33, e35]) Try.call71 (hpwH.out _ _ w2 h32 h35)
          · obtain rfl := Option.some.inj ho
            have h36 : (fun v w => IsRow w v (M)) (a.eval (.tmp 36)) w2 := (hrd 6 _ 36 rfl rfl (by kernel_rfl) (by kernel_rfl) (by decide)).2 rfl
            generalize e36 : a.eval (.tmp 36) = v36 at h36
            exact wpv_call 47 [.tmp 36] _ rfl [v36] (by simp only [List.map_cons, List.map_nil, e36]) Try.call47 (htdH.out _ w2 h36)
          · obtain rfl := Option.some.inj ho
            obtain ⟨_, e37⟩ : ∃ _w : World, a.eval (.tmp 37) = .tuple #[.agg (u8s 64 (cf M)), .int .i64 0] := (hrd 7 _ 37 rfl rfl (by kernel_rfl) (by kernel_rfl) (by decide)).1
            exact wpv_of (wp_extract _ 0 #[.agg (u8s 64 (cf M)), .int .i64 0] _ rfl e37 rfl) (fun _ _ => rfl)
          · obtain rfl := Option.some.inj ho
            obtain ⟨_, e37⟩ : ∃ _w : World, a.eval (.tmp 37) = .tuple #[.agg (u8s 64 (cf M)), .int .i64 0] := (hrd 7 _ 37 rfl rfl (by kernel_rfl) (by kernel_rfl) (by decide)).1
            exact wpv_of (wp_extract _ 1 #[.agg (u8s 64 (cf M)), .int .i64 0] _ rfl e37 rfl) (fun _ _ => rfl)
          · exact absurd rfl (hz 0 (by decide))
          · obtain rfl := Option.some.inj ho
            obtain ⟨_, e39⟩ : ∃ _w : World, a.eval (.tmp 39) = .int .i64 0 := (hrd 9 _ 39 rfl rfl (by kernel_rfl) (by kernel_rfl) (by decide)).1
            exact wpv_of (wp_assign _ _ rfl e39) (fun _ _ => rfl)
          · simp at ho
        intro vals xE hBx hSx hS0 hcs hrs
        obtain ⟨_, e0⟩ : ∃ _w : World, vals 0 = .int .i64 p := hcs 0 (by simp) (by decide)
        obtain ⟨_, e1⟩ : ∃ _w : World, vals 1 = .agg (u8s 64 f) := hcs 1 (by simp) (by decide)
        obtain ⟨_, e3⟩ : ∃ _w : World, vals 3 = .int .i64 n := hcs 3 (by simp) (by decide)
        obtain ⟨_, e4⟩ : ∃ _w : World, vals 4 = .agg (u8s 64 g) := hcs 4 (by simp) (by decide)
        obtain ⟨_, e7⟩ : ∃ _w : World, vals 7 = .tuple #[.agg (u8s 64 (cf M)), .int .i64 0] := hcs 7 (by simp) (by decide)
        obtain ⟨_, e8⟩ : ∃ _w : World, vals 8 = .agg (u8s 64 (cf M)) := hcs 8 (by simp) (by decide)
        obtain ⟨_, e9⟩ : ∃ _w : World, vals 9 = .int .i64 0 := hcs 9 (by simp) (by decide)
        obtain ⟨_, e11⟩ : ∃ _w : World, vals 11 = .int .i64 0 := hcs 11 (by simp) (by decide)
        have hsE0 : Blk xE (w.heap.size + 1 + 1) (u8s 64 (cf M)) 23 := hrs 0 (by decide)
        simp only [List.length_cons, List.length_nil, Nat.zero_add, Nat.reduceAdd, List.replicate, putAll, if_true, Act.put, List.setIfInBounds_toArray, List.set_cons_zero, List.set_cons_succ, e0, e1, e3, e4, e7, e8, e9, e11]
        replace hA1 := hSx.1
        replace hB1 := hSx.2.1
        clear hcs hrs hS0 hSx e0 e1 e3 e4 e7 e8 e9 e11
        go_wp2_with fail
        exact bodyPost_ret (res_ct (x := .int .i64 0) rfl rfl hsE0 uPoly sPoly rfl) rfl ⟨rfl, hBx⟩
      · go_wp2_with (first | (go_at_call 69; refine (isNumber_any _ _ _ hcT.out).mono ?_; rintro e w' ⟨rfl, rfl⟩) | ((with_reducible refine wpl_guard ?_); first | (refine wpl_load_arr rfl 23 _ rfl _ rfl _ _ hB1 _ _ uPoly sPoly ?_) | (refine wpl_build_zero rfl 23 64 5 rfl _ uPoly sByte zPoly ?_) | (refine wpl_eql_arr rfl 23 _ _ _ rfl 64 .u8 g (fun _ => 0) 5 rfl rfl uPoly uByte sByte gPoly _ (mkp_zero_dec g hzH.out) ?_) | (refine wpl_store_arr rfl 23 _ _ rfl _ rfl _ rfl _ _ hZ1 sPoly (by simp only [u8s_size]) (u8s_oneCell _ _) ?_)))
        exact bodyPost_ret (res_ct (x := .int .i64 5) rfl rfl (hZ1.setRow_same (cs := u8s 64 fun _ => 0)) uPoly sPoly rfl) rfl ⟨rfl, below_setRow hb2 (by omega) _⟩
theorem PowerModulo_pair (p : Int) (f : Nat → Int) (k : Int) (g : Nat → Int) (_ : (Lit.int .i64 p).wf = true) (hf : By f) (_ : (Lit.int .i64 k).wf = true) (hg : By g) : ∃ (r0 : (Nat → Int)) (r1 : Int),
    (∀ w, Calls Try.prog 40 #[.int .i64 p, .agg (u8s 64 f), .int .i64 k, .agg (u8s 64 g)] w fun e w' => e = .returned (.tuple #[.agg (u8s 64 r0), .int .i64 r1]) ∧ Below w.heap.size w w') ∧
    (∀ w, Calls Try.prog 41 #[.int .i64 p, .agg (u8s 64 f), .int .i64 k, .agg (u8s 64 g)] w fun e w' => e = .returned (.tuple #[.agg (u8s 64 r0), .int .i64 r1]) ∧ Below w.heap.size w w') := by
  obtain ⟨b, hb⟩ := dec_true (Good p [f, g])
  exact ⟨_, _, fun w => specPowerModulo_any p f k g w hf hg b hb _ rfl _ rfl, fun w => implPowerModulo_any p f k g w hf hg b hb _ rfl _ rfl⟩
end Go.Proofs.Ythkkicanockhgaa

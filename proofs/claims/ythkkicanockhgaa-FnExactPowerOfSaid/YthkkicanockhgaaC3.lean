/- Walks: divisions of polynomials on both sides. -/
import Derived.Test.YthkkicanockhgaaC2
import Derived.Test.YthkkicanockhgaaTwo
namespace Go.Proofs.Ythkkicanockhgaa
open Go.RowKit

theorem mkp_zero_iff (g : Nat → Int) : (mkp 64 g).length = 0 ↔ ∀ i, i < 64 → g i = 0 := by
  constructor
  · intro h i hi
    have := mkp_cf 64 g i
    rw [if_pos hi, List.length_eq_zero_iff.1 h, cf_nil] at this
    exact this.symm
  · intro h
    have := Tr_length_le (mkp_Tr 64 g) (n := 0) fun i _ => by rw [mkp_cf]; split; (· exact h i ‹_›); rfl
    omega
theorem mkp_zero_dec (g : Nat → Int) {z : Bool} (h : decide ((mkp 64 g).length = 0) = z) {inst : Decidable (∀ i, i < 64 → g i = 0)} : @decide (∀ i, i < 64 → g i = 0) inst = z := by
  rw [← h]; exact decide_eq_decide.2 (mkp_zero_iff g).symm

set_option maxRecDepth 20000 in
set_option maxHeartbeats 2000000 in
theorem specDividePolys_any (p : Int) (f : Nat → Int) (g : Nat → Int) (w : World) (hf : By f) (hg : By g) (b : Bool) (hb : Good p [f, g] ↔ b = true) (z : Bool) (hz : decide ((mkp 64 g).length = 0) = z) :
    Calls Try.prog 30 #[.int .i64 p, .agg (u8s 64 f), .agg (u8s 64 g)] w fun e w' => e = .returned (.tuple #[.agg (u8s 64 (if b then (if z then (fun _ => 0) else cf (divp p (mkp 64 f) (mkp 64 g)).1) else fun _ => 0)), .agg (u8s 64 (if b then (if z then (fun _ => 0) else cf (divp p (mkp 64 f) (mkp 64 g)).2) else fun _ => 0)), .int .i64 (if b then (if z then 5 else 0) else 1)]) ∧ Below w.heap.size w w' := by
  obtain ⟨D1, hD1⟩ : ∃ M, (divp p (mkp 64 f) (mkp 64 g)).1 = M := ⟨_, rfl⟩
  obtain ⟨D2, hD2⟩ : ∃ M, (divp p (mkp 64 f) (mkp 64 g)).2 = M := ⟨_, rfl⟩
  rw [hD1, hD2]
  have hDD := Lib.hid (And.intro hD1 hD2)
  have hzH := Lib.hid hz
  clear hD1 hD2 hz
  have hfH := Lib.hid hf; clear hf
  have hgH := Lib.hid hg; clear hg
  have hbH := Lib.hid hb; clear hb
  obtain ⟨hb0, hA, hB, hZ, hY⟩ := boxes4 w (u8s 64 f) (u8s 64 g) (u8s 64 fun _ => 0) (u8s 64 fun _ => 0) 23 23 23 23
  go_enter Try.func30, Try.ntmps30
  go_wp2_with (first | (refine wpl_alloc_arr rfl 23 rfl _ zPoly ?_) | (refine wpl_load_arr rfl 23 _ rfl _ rfl _ _ hA _ _ uPoly sPoly ?_) | (refine wpl_load_arr rfl 23 _ rfl _ rfl _ _ hB _ _ uPoly sPoly ?_) | (refine wpl_buildSlice_polys rfl 83 23 2 _ rfl Try.underlying83 sPoly zPoly [f, g] rfl (by decide) (by decide) rfl ?_))
  refine (l01Code_lit [f, g] 2 128 rfl rfl (by omega) p _ _ _ (Blk.newAt (by simp) _ _) (by2 hfH.out hgH.out) b hbH.out).mono ?_
  rintro e w1 ⟨rfl, hb1⟩
  have hb2 := below_step hb0 (below_step (below_new _ _) hb1)
  have hA1 := (hA.alloc _).keep hb1
  have hB1 := (hB.alloc _).keep hb1
  have hZ1 := (hZ.alloc _).keep hb1
  have hY1 := (hY.alloc _).keep hb1
  clear hA hB hZ hY hb0 hb1
  cases b
  · go_wp2_with (first | (refine wpl_build_zero rfl 23 64 5 rfl _ uPoly sByte zPoly ?_) | (refine wpl_sto2 23 sPoly _ _ rfl rfl rfl _ rfl _ rfl _ hZ1 _ _ rfl rfl rfl _ rfl _ rfl _ hY1 (by omega) ?_; intro w5 hz5 hy5 _ hB5))
    exact bodyPost_ret (res_cct rfl rfl hz5 uPoly sPoly rfl hy5 uPoly sPoly rfl) rfl ⟨rfl, hB5 _ _ hb2 (by omega) (by omega)⟩
  · have hG := hbH.out.2 rfl
    have hxH := Lib.hid (hG.p64 (f := f) (by simp) hfH.out)
    have hyH := Lib.hid (hG.p64 (f := g) (by simp) hgH.out)
    clear hG
    have hdg := Lib.hid (fun w => l01Deg_any g w fun i _ => hgH.out i)
    cases z
    · have hne := of_decide_eq_false hzH.out
      have hneH := Lib.hid (show mkp 64 g ≠ [] from fun e => hne (by rw [e]; rfl))
      have hge : ¬ ((mkp 64 g).length : Int) - 1 < 0 := by omega
      have hdv : ∀ w, Calls Try.prog 59 #[.int .i64 p, .agg (u8s 64 f), .agg (u8s 64 g)] w fun e w' => e = .returned (.tuple #[.agg (u8s 64 (cf D1)), .agg (u8s 64 (cf D2))]) ∧ Below w.heap.size w w' := fun w => by
        have := l01Divide_any _ _ p w hxH.out hyH.out hneH.out
        rwa [hDD.out.1, hDD.out.2, ← u8s_mkp, ← u8s_mkp] at this
      have hdvH := Lib.hid hdv
      clear hdv hne
      go_wp2_with (first | (refine wpl_load_arr rfl 23 _ rfl _ rfl _ _ hA1 _ _ uPoly sPoly ?_) | (refine wpl_load_arr rfl 23 _ rfl _ rfl _ _ hB1 _ _ uPoly sPoly ?_))
      refine (hdg.out _).mono ?_
      rintro e w2 ⟨rfl, hb3⟩
      replace hA1 := hA1.keep hb3
      replace hB1 := hB1.keep hb3
      replace hZ1 := hZ1.keep hb3
      replace hY1 := hY1.keep hb3
      replace hb2 := below_step hb2 hb3
      clear hb3
      go_wp2_with (first | (refine wpl_load_arr rfl 23 _ rfl _ rfl _ _ hA1 _ _ uPoly sPoly ?_) | (refine wpl_load_arr rfl 23 _ rfl _ rfl _ _ hB1 _ _ uPoly sPoly ?_))
      refine (hdvH.out _).mono ?_
      rintro e w3 ⟨rfl, hb3⟩
      replace hZ1 := hZ1.keep hb3
      replace hY1 := hY1.keep hb3
      replace hb2 := below_step hb2 hb3
      have hzl := hZ1.lt
      have hyl := hY1.lt
      clear hA1 hB1 hb3
      go_wp2_with (first | (refine wpl_new2 23 zPoly sPoly _ _ rfl rfl rfl rfl rfl _ _ rfl rfl rfl rfl rfl rfl _ rfl rfl _ rfl ?_; intro w4 hb3 hN1 hN2; replace hZ1 := hZ1.keep hb3; replace hY1 := hY1.keep hb3; replace hb2 := below_step hb2 hb3; clear hb3))
      go_upto_region 7 with (fail)
      refine gen_region (ws := w) (w := _) (B := w.heap.size) (by kernel_rfl) (by kernel_rfl) (by kernel_rfl) (by kernel_rfl)
          (fun i => ([fun v _ => v = .agg (u8s 64 (cf D1)), fun v _ => v = .agg (u8s 64 (cf D2)), fun _ _ => True, fun _ _ => True, fun v _ => v = .int .i64 0] : List (Value → World → Prop)).getD i (fun _ _ => True))
          (fun i => ([true, true, true, true, true] : List Bool).getD i true)
          2 (fun k => [2, 3].getD k 0) (fun k => [0, 1].getD k 0) (fun k => [6, 7].getD k 0) (fun k => [36, 37].getD k 0) (fun k => [w.heap.size + 1 + 1, w.heap.size + 1 + 1 + 1].getD k 0) (fun k => [64, 64].getD k 0) (fun k => [(cf D1), (cf D2)].getD k (fun _ => 0)) (fun k => [(fun _ => 0), (fun _ => 0)].getD k (fun _ => 0)) (fun k => [23, 23].getD k 0) hb2 (Nat.le_refl _)
          (fun w' => Blk w' (w3.heap.size) (u8s 64 (cf D1)) 23 ∧ Blk w' (w3.heap.size + 1) (u8s 64 (cf D2)) 23 ∧ True) ⟨hN1.drew, hN2.drew, trivial⟩ (fun w1 w2 h hb => ⟨h.1.keep hb, h.2.1.keep hb, trivial⟩) ?_ ?_ ?_ ?_ ?_ ?_ ?_
      · intro k hk w1 cs h
        rcases k with _|_|k
        · exact ⟨h.1.setRow_other (by simp only [List.getD_cons_zero, List.getD_cons_succ] <;> omega), h.2.1.setRow_other (by simp only [List.getD_cons_zero, List.getD_cons_succ] <;> omega), trivial⟩
        · exact ⟨h.1.setRow_other (by simp only [List.getD_cons_zero, List.getD_cons_succ] <;> omega), h.2.1.setRow_other (by simp only [List.getD_cons_zero, List.getD_cons_succ] <;> omega), trivial⟩
        · omega
      · intro i v w1 w2 h hb
        rcases i with _|_|_|_|_|i
        · exact h
        · exact h
        · exact h
        · exact h
        · exact h
        · exact h
      · intro k hk
        rcases k with _|_|k
        · kernel_rfl
        · kernel_rfl
        · omega
      · intro k hk
        rcases k with _|_|k
        · refine ⟨?_, (by kernel_rfl), hZ1, fun v w' h => h, by decide, ?_⟩
          · simp only [List.getD_cons_zero, List.getD_cons_succ] <;> omega
          · intro k' hk' hne
            rcases k' with _|_|k'
            all_goals first | omega | exact absurd rfl hne | (refine ⟨?_, by decide⟩; simp only [List.getD_cons_zero, List.getD_cons_succ]; omega)
        · refine ⟨?_, (by kernel_rfl), hY1, fun v w' h => h, by decide, ?_⟩
          · simp only [List.getD_cons_zero, List.getD_cons_succ] <;> omega
          · intro k' hk' hne
            rcases k' with _|_|k'
            all_goals first | omega | exact absurd rfl hne | (refine ⟨?_, by decide⟩; simp only [List.getD_cons_zero, List.getD_cons_succ]; omega)
        · omega
      · kernel_rfl
      · intro i o ho hz a w2 hBs hSx hBl hrd hpar
        rcases i with _|_|_|_|_|i
        · obtain rfl := Option.some.inj ho
          exact wpv_of (wp_loadB 23 _ rfl _ (hpar 10 (.pointer (some ⟨w3.heap.size, 0, none⟩)) (by kernel_rfl) (by kernel_rfl)) _ _ hSx.1 _ _ uPoly sPoly) (fun _ _ => rfl)
        · obtain rfl := Option.some.inj ho
          exact wpv_of (wp_loadB 23 _ rfl _ (hpar 11 (.pointer (some ⟨w3.heap.size + 1, 0, none⟩)) (by kernel_rfl) (by kernel_rfl)) _ _ hSx.2.1 _ _ uPoly sPoly) (fun _ _ => rfl)
        · exact absurd rfl (hz 0 (by decide))
        · exact absurd rfl (hz 1 (by decide))
        · obtain rfl := Option.some.inj ho
          exact wpv_of (wp_assign _ (.int .i64 0) rfl rfl) (fun _ _ => rfl)
        · simp at ho
      intro vals xE hBx hSx hS0 hcs hrs
      obtain ⟨_, e0⟩ : ∃ _w : World, vals 0 = .agg (u8s 64 (cf D1)) := hcs 0 (by simp) (by decide)
      obtain ⟨_, e1⟩ : ∃ _w : World, vals 1 = .agg (u8s 64 (cf D2)) := hcs 1 (by simp) (by decide)
      obtain ⟨_, e4⟩ : ∃ _w : World, vals 4 = .int .i64 0 := hcs 4 (by simp) (by decide)
      have hsE0 : Blk xE (w.heap.size + 1 + 1) (u8s 64 (cf D1)) 23 := hrs 0 (by decide)
      have hsE1 : Blk xE (w.heap.size + 1 + 1 + 1) (u8s 64 (cf D2)) 23 := hrs 1 (by decide)
      simp only [List.length_cons, List.length_nil, Nat.zero_add, Nat.reduceAdd, List.replicate, putAll, if_true, Act.put, List.setIfInBounds_toArray, List.set_cons_zero, List.set_cons_succ, e0, e1, e4]
      replace hN1 := hSx.1
      replace hN2 := hSx.2.1
      clear hcs hrs hS0 hSx e0 e1 e4
      go_wp2_with fail
      exact bodyPost_ret (res_cct rfl rfl hsE0 uPoly sPoly rfl hsE1 uPoly sPoly rfl) rfl ⟨rfl, hBx⟩
    · have hlt : ((mkp 64 g).length : Int) - 1 < 0 := by have := of_decide_eq_true hzH.out; omega
      go_wp2_with (first | (refine wpl_load_arr rfl 23 _ rfl _ rfl _ _ hA1 _ _ uPoly sPoly ?_) | (refine wpl_load_arr rfl 23 _ rfl _ rfl _ _ hB1 _ _ uPoly sPoly ?_))
      refine (hdg.out _).mono ?_
      rintro e w2 ⟨rfl, hb3⟩
      replace hZ1 := hZ1.keep hb3
      replace hY1 := hY1.keep hb3
      replace hb2 := below_step hb2 hb3
      clear hb3 hA1 hB1
      go_wp2_with (first | (refine wpl_build_zero rfl 23 64 5 rfl _ uPoly sByte zPoly ?_) | (refine wpl_sto2 23 sPoly _ _ rfl rfl rfl _ rfl _ rfl _ hZ1 _ _ rfl rfl rfl _ rfl _ rfl _ hY1 (by omega) ?_; intro w5 hz5 hy5 _ hB5))
      exact bodyPost_ret (res_cct rfl rfl hz5 uPoly sPoly rfl hy5 uPoly sPoly rfl) rfl ⟨rfl, hB5 _ _ hb2 (by omega) (by omega)⟩

set_option maxRecDepth 20000 in
set_option maxHeartbeats 2000000 in
theorem implDividePolys_any (p : Int) (f : Nat → Int) (g : Nat → Int) (w : World) (hf : By f) (hg : By g) (b : Bool) (hb : Good p [f, g] ↔ b = true) (z : Bool) (hz : decide ((mkp 64 g).length = 0) = z) :
    Calls Try.prog 31 #[.int .i64 p, .agg (u8s 64 f), .agg (u8s 64 g)] w fun e w' => e = .returned (.tuple #[.agg (u8s 64 (if b then (if z then (fun _ => 0) else cf (divp p (mkp 64 f) (mkp 64 g)).1) else fun _ => 0)), .agg (u8s 64 (if b then (if z then (fun _ => 0) else cf (divp p (mkp 64 f) (mkp 64 g)).2) else fun _ => 0)), .int .i64 (if b then (if z then 5 else 0) else 1)]) ∧ Below w.heap.size w w' := by
  obtain ⟨D1, hD1⟩ : ∃ M, (divp p (mkp 64 f) (mkp 64 g)).1 = M := ⟨_, rfl⟩
  obtain ⟨D2, hD2⟩ : ∃ M, (divp p (mkp 64 f) (mkp 64 g)).2 = M := ⟨_, rfl⟩
  rw [hD1, hD2]
  have hDD := Lib.hid (And.intro hD1 hD2)
  have hzH := Lib.hid hz
  clear hD1 hD2 hz
  have hfH := Lib.hid hf; clear hf
  have hgH := Lib.hid hg; clear hg
  have hbH := Lib.hid hb; clear hb
  obtain ⟨hb0, hA, hB, hZ, hY⟩ := boxes4 w (u8s 64 f) (u8s 64 g) (u8s 64 fun _ => 0) (u8s 64 fun _ => 0) 23 23 23 23
  go_enter Try.func31, Try.ntmps31
  go_wp2_with (first | (refine wpl_alloc_arr rfl 23 rfl _ zPoly ?_) | (refine wpl_load_arr rfl 23 _ rfl _ rfl _ _ hA _ _ uPoly sPoly ?_) | (refine wpl_load_arr rfl 23 _ rfl _ rfl _ _ hB _ _ uPoly sPoly ?_) | (refine wpl_buildSlice_polys rfl 83 23 2 _ rfl Try.underlying83 sPoly zPoly [f, g] rfl (by decide) (by decide) rfl ?_))
  refine (polysCode_lit [f, g] 2 128 rfl rfl (by omega) p _ _ _ (Blk.newAt (by simp) _ _) (by2 hfH.out hgH.out) b hbH.out).mono ?_
  rintro e w1 ⟨rfl, hb1⟩
  have hb2 := below_step hb0 (below_step (below_new _ _) hb1)
  have hA1 := (hA.alloc _).keep hb1
  have hB1 := (hB.alloc _).keep hb1
  have hZ1 := (hZ.alloc _).keep hb1
  have hY1 := (hY.alloc _).keep hb1
  clear hA hB hZ hY hb0 hb1
  cases b
  · go_wp2_with (first | (refine wpl_build_zero rfl 23 64 5 rfl _ uPoly sByte zPoly ?_) | (refine wpl_sto2 23 sPoly _ _ rfl rfl rfl _ rfl _ rfl _ hZ1 _ _ rfl rfl rfl _ rfl _ rfl _ hY1 (by omega) ?_; intro w5 hz5 hy5 _ hB5))
    exact bodyPost_ret (res_cct rfl rfl hz5 uPoly sPoly rfl hy5 uPoly sPoly rfl) rfl ⟨rfl, hB5 _ _ hb2 (by omega) (by omega)⟩
  · have hG := hbH.out.2 rfl
    have hxH := Lib.hid (hG.p64 (f := f) (by simp) hfH.out)
    have hyH := Lib.hid (hG.p64 (f := g) (by simp) hgH.out)
    clear hG
    cases z
    · have hneH := Lib.hid (show mkp 64 g ≠ [] from fun e => of_decide_eq_false hzH.out (by rw [e]; rfl))
      have hq1 := Lib.hid (show P64 p D1 from hDD.out.1 ▸ hxH.out.quot hyH.out hneH.out)
      have hq2 := Lib.hid (show P64 p D2 from hDD.out.2 ▸ hxH.out.rest hyH.out hneH.out)
      go_wp2_with (first | (refine wpl_build_zero rfl 23 64 5 rfl _ uPoly sByte zPoly ?_) | (refine wpl_eql_arr rfl 23 _ _ _ rfl 64 .u8 g (fun _ => 0) 5 rfl rfl uPoly uByte sByte gPoly _ (mkp_zero_dec g hzH.out) ?_) | (refine wpl_load_arr rfl 23 _ rfl _ rfl _ _ hB1 _ _ uPoly sPoly ?_))
      go_upto_region 6 with (fail)
      refine gen_region (ws := w) (w := _) (B := w.heap.size) (by kernel_rfl) (by kernel_rfl) (by kernel_rfl) (by kernel_rfl)
          (fun i => ([fun v _ => v = .int .i64 p, fun v _ => v = .agg (u8s 64 f), fun v w => IsRow w v (mkp 64 f), fun v _ => v = .agg (u8s 64 g), fun v w => IsRow w v (mkp 64 g), fun v w => ∃ v1 v2, v = .tuple #[v1, v2] ∧ IsRow w v1 (D1) ∧ IsRow w v2 (D2), fun v w => ∃ v1 v2, v = .tuple #[v1, v2] ∧ IsRow w v1 (D1) ∧ IsRow w v2 (D2), fun v w => IsRow w v (D1), fun v w => IsRow w v (D2), fun v w => IsRow w v (D1), fun v w => IsRow w v (D2)] : List (Value → World → Prop)).getD i (fun _ _ => True))
          (fun i => ([true, true, false, true, false, false, false, false, false, false, false] : List Bool).getD i true)
          0 (fun k => [].getD k 0) (fun k => [].getD k 0) (fun k => [].getD k 0) (fun k => [].getD k 0) (fun k => [].getD k 0) (fun k => [].getD k 0) (fun k => [].getD k (fun _ => 0)) (fun k => [].getD k (fun _ => 0)) (fun k => [].getD k 0) hb2 (Nat.le_refl _)
          (fun w' => Blk w' (w.heap.size) (u8s 64 f) 23 ∧ Blk w' (w.heap.size + 1) (u8s 64 g) 23 ∧ True) ⟨hA1.drew, hB1.drew, trivial⟩ (fun w1 w2 h hb => ⟨h.1.keep hb, h.2.1.keep hb, trivial⟩) ?_ ?_ ?_ ?_ ?_ ?_ ?_
      · exact fun k hk => absurd hk (by omega)
      · intro i v w1 w2 h hb
        rcases i with _|_|_|_|_|_|_|_|_|_|_|i
        · exact h
        · exact h
        · exact (show IsRow w1 v (mkp 64 f) from h).below hb
        · exact h
        · exact (show IsRow w1 v (mkp 64 g) from h).below hb
        · obtain ⟨v1, v2, e, h1, h2⟩ := h; exact ⟨v1, v2, e, h1.below hb, h2.below hb⟩
        · obtain ⟨v1, v2, e, h1, h2⟩ := h; exact ⟨v1, v2, e, h1.below hb, h2.below hb⟩
        · exact (show IsRow w1 v (D1) from h).below hb
        · exact (show IsRow w1 v (D2) from h).below hb
        · exact (show IsRow w1 v (D1) from h).below hb
        · exact (show IsRow w1 v (D2) from h).below hb
        · exact h
      · exact fun k hk => absurd hk (by omega)
      · exact fun k hk => absurd hk (by omega)
      · kernel_rfl
      · intro i o ho hz a w2 hBs hSx hBl hrd hpar
        rcases i with _|_|_|_|_|_|_|_|_|_|_|i
        · obtain rfl := Option.some.inj ho
          have e0 : a.eval (.tmp 0) = .int .i64 p := hpar 0 _ (by kernel_rfl) (by kernel_rfl)
          exact wpv_of (wp_move _ _ rfl e0) (fun _ _ => rfl)
        · obtain rfl := Option.some.inj ho
          exact wpv_of (wp_loadB 23 _ rfl _ (hpar 4 (.pointer (some ⟨w.heap.size, 0, none⟩)) (by kernel_rfl) (by kernel_rfl)) _ _ hSx.1 _ _ uPoly sPoly) (fun _ _ => rfl)
        · obtain rfl := Option.some.inj ho
          obtain ⟨_, e29⟩ : ∃ _w : World, a.eval (.tmp 29) = .agg (u8s 64 f) := (hrd 1 _ 29 rfl rfl (by kernel_rfl) (by kernel_rfl) (by decide)).1
          exact wpv_call 49 [.tmp 29] _ rfl [.agg (u8s 64 f)] (by simp only [List.map_cons, List.map_nil, e29]) Try.call49 (rowOf_any f w2 hfH.out.on)
        · obtain rfl := Option.some.inj ho
          exact wpv_of (wp_loadB 23 _ rfl _ (hpar 5 (.pointer (some ⟨w.heap.size + 1, 0, none⟩)) (by kernel_rfl) (by kernel_rfl)) _ _ hSx.2.1 _ _ uPoly sPoly) (fun _ _ => rfl)
        · obtain rfl := Option.some.inj ho
          obtain ⟨_, e31⟩ : ∃ _w : World, a.eval (.tmp 31) = .agg (u8s 64 g) := (hrd 3 _ 31 rfl rfl (by kernel_rfl) (by kernel_rfl) (by decide)).1
          exact wpv_call 49 [.tmp 31] _ rfl [.agg (u8s 64 g)] (by simp only [List.map_cons, List.map_nil, e31]) Try.call49 (rowOf_any g w2 hgH.out.on)
        · obtain rfl := Option.some.inj ho
          obtain ⟨_, e28⟩ : ∃ _w : World, a.eval (.tmp 28) = .int .i64 p := (hrd 0 _ 28 rfl rfl (by kernel_rfl) (by kernel_rfl) (by decide)).1
          have h30 : (fun v w => IsRow w v (mkp 64 f)) (a.eval (.tmp 30)) w2 := (hrd 2 _ 30 rfl rfl (by kernel_rfl) (by kernel_rfl) (by decide)).2 rfl
          generalize e30 : a.eval (.tmp 30) = v30 at h30
          have h32 : (fun v w => IsRow w v (mkp 64 g)) (a.eval (.tmp 32)) w2 := (hrd 4 _ 32 rfl rfl (by kernel_rfl) (by kernel_rfl) (by decide)).2 rfl
          generalize e32 : a.eval (.tmp 32) = v32 at h32
          exact wpv_call 60 [.tmp 28, .tmp 30, .tmp 32] _ rfl [.int .i64 p, v30, v32] (by simp only [List.map_cons, List.map_nil, e28, e30, e32]) Try.call60 ((divide_any _ _ _ _ p w2 hxH.out.pr h30 h32 hxH.out.po hyH.out.po hneH.out (by have := hxH.out.le; omega) (by have := hyH.out.le; omega)).mono fun _ _ ⟨v1, v2, h1, h2, h3, h4⟩ => ⟨_, h1, ⟨v1, v2, rfl, hDD.out.1 ▸ h2, hDD.out.2 ▸ h3⟩, h4⟩)
        · obtain rfl := Option.some.inj ho
          have h33 : (fun v w => ∃ v1 v2, v = .tuple #[v1, v2] ∧ IsRow w v1 (D1) ∧ IsRow w v2 (D2)) (a.eval (.tmp 33)) w2 := (hrd 5 _ 33 rfl rfl (by kernel_rfl) (by kernel_rfl) (by decide)).2 rfl
          generalize e33 : a.eval (.tmp 33) = v33 at h33
          exact wpv_of (wp_move _ _ rfl e33) (fun w' hb => by have h := h33; obtain ⟨v1, v2, e, h1, h2⟩ := h; exact ⟨v1, v2, e, h1.below hb, h2.below hb⟩)
        · obtain rfl := Option.some.inj ho
          have h27 : (fun v w => ∃ v1 v2, v = .tuple #[v1, v2] ∧ IsRow w v1 (D1) ∧ IsRow w v2 (D2)) (a.eval (.tmp 27)) w2 := (hrd 6 _ 27 rfl rfl (by kernel_rfl) (by kernel_rfl) (by decide)).2 rfl
          generalize e27 : a.eval (.tmp 27) = v27 at h27
          obtain ⟨q1, q2, eq, k1, k2⟩ := h27
          exact wpv_of (wp_extract _ 0 #[q1, q2] _ rfl (e27.trans eq) rfl) (fun w' hb => k1.below hb)
        · obtain rfl := Option.some.inj ho
          have h27 : (fun v w => ∃ v1 v2, v = .tuple #[v1, v2] ∧ IsRow w v1 (D1) ∧ IsRow w v2 (D2)) (a.eval (.tmp 27)) w2 := (hrd 6 _ 27 rfl rfl (by kernel_rfl) (by kernel_rfl) (by decide)).2 rfl
          generalize e27 : a.eval (.tmp 27) = v27 at h27
          obtain ⟨q1, q2, eq, k1, k2⟩ := h27
          exact wpv_of (wp_extract _ 1 #[q1, q2] _ rfl (e27.trans eq) rfl) (fun w' hb => k2.below hb)
        · obtain rfl := Option.some.inj ho
          have h34 : (fun v w => IsRow w v (D1)) (a.eval (.tmp 34)) w2 := (hrd 7 _ 34 rfl rfl (by kernel_rfl) (by kernel_rfl) (by decide)).2 rfl
          generalize e34 : a.eval (.tmp 34) = v34 at h34
          exact wpv_of (wp_assign _ _ rfl e34) (fun w' hb => h34.below hb)
        · obtain rfl := Option.some.inj ho
          have h35 : (fun v w => IsRow w v (D2)) (a.eval (.tmp 35)) w2 := (hrd 8 _ 35 rfl rfl (by kernel_rfl) (by kernel_rfl) (by decide)).2 rfl
          generalize e35 : a.eval (.tmp 35) = v35 at h35
          exact wpv_of (wp_assign _ _ rfl e35) (fun w' hb => h35.below hb)
        · simp at ho
      intro vals xE hBx hSx hS0 hcs hrs
      obtain ⟨hBl, hc0⟩ := hS0 rfl
      have e0 : vals 0 = .int .i64 p := hc0 0 (by simp)
      have e1 : vals 1 = .agg (u8s 64 f) := hc0 1 (by simp)
      have cE2 : (fun v w => IsRow w v (mkp 64 f)) (vals 2) xE := hc0 2 (by simp)
      generalize ev2 : vals 2 = uE2 at cE2
      have e3 : vals 3 = .agg (u8s 64 g) := hc0 3 (by simp)
      have cE4 : (fun v w => IsRow w v (mkp 64 g)) (vals 4) xE := hc0 4 (by simp)
      generalize ev4 : vals 4 = uE4 at cE4
      have cE5 : (fun v w => ∃ v1 v2, v = .tuple #[v1, v2] ∧ IsRow w v1 (D1) ∧ IsRow w v2 (D2)) (vals 5) xE := hc0 5 (by simp)
      generalize ev5 : vals 5 = uE5 at cE5
      have cE6 : (fun v w => ∃ v1 v2, v = .tuple #[v1, v2] ∧ IsRow w v1 (D1) ∧ IsRow w v2 (D2)) (vals 6) xE := hc0 6 (by simp)
      generalize ev6 : vals 6 = uE6 at cE6
      have cE7 : (fun v w => IsRow w v (D1)) (vals 7) xE := hc0 7 (by simp)
      generalize ev7 : vals 7 = uE7 at cE7
      have cE8 : (fun v w => IsRow w v (D2)) (vals 8) xE := hc0 8 (by simp)
      generalize ev8 : vals 8 = uE8 at cE8
      have cE9 : (fun v w => IsRow w v (D1)) (vals 9) xE := hc0 9 (by simp)
      generalize ev9 : vals 9 = uE9 at cE9
      have cE10 : (fun v w => IsRow w v (D2)) (vals 10) xE := hc0 10 (by simp)
      generalize ev10 : vals 10 = uE10 at cE10
      simp only [List.length_cons, List.length_nil, Nat.zero_add, Nat.reduceAdd, List.replicate, putAll, if_true, Act.put, List.setIfInBounds_toArray, List.set_cons_zero, List.set_cons_succ, e0, e1, ev2, e3, ev4, ev5, ev6, ev7, ev8, ev9, ev10]
      replace hZ1 := hZ1.keep hBl
      replace hY1 := hY1.keep hBl
      replace hA1 := hSx.1
      replace hB1 := hSx.2.1
      clear hcs hrs hS0 hSx e0 e1 ev2 e3 ev4 ev5 ev6 ev7 ev8 ev9 ev10 hc0
      clear hA1 hB1 hBl hb2
      have k1 := Lib.hid cE9
      have k2 := Lib.hid cE10
      clear cE2 cE4 cE5 cE6 cE7 cE8 cE9 cE10
      go_wp2_with fail
      refine (poly_any _ _ _ k1.out (fun i => hq1.out.by i) hq1.out.le).mono ?_
      rintro e w3 ⟨rfl, hb3⟩
      replace hZ1 := hZ1.keep hb3
      replace hY1 := hY1.keep hb3
      replace k2 := Lib.hid (k2.out.below hb3)
      replace hBx := below_step hBx hb3
      clear hb3
      go_wp2_with fail
      refine (poly_any _ _ _ k2.out (fun i => hq2.out.by i) hq2.out.le).mono ?_
      rintro e w4 ⟨rfl, hb3⟩
      replace hZ1 := hZ1.keep hb3
      replace hY1 := hY1.keep hb3
      replace hBx := below_step hBx hb3
      clear hb3
      go_wp2_with (first | (refine wpl_sto2 23 sPoly _ _ rfl rfl rfl _ rfl _ rfl _ hZ1 _ _ rfl rfl rfl _ rfl _ rfl _ hY1 (by omega) ?_; intro w5 hz5 hy5 _ hB5))
      exact bodyPost_ret (res_cct rfl rfl hz5 uPoly sPoly rfl hy5 uPoly sPoly rfl) rfl ⟨rfl, hB5 _ _ hBx (by omega) (by omega)⟩
    · go_wp2_with (first | (refine wpl_build_zero rfl 23 64 5 rfl _ uPoly sByte zPoly ?_) | (refine wpl_eql_arr rfl 23 _ _ _ rfl 64 .u8 g (fun _ => 0) 5 rfl rfl uPoly uByte sByte gPoly _ (mkp_zero_dec g hzH.out) ?_) | (refine wpl_load_arr rfl 23 _ rfl _ rfl _ _ hB1 _ _ uPoly sPoly ?_) | (refine wpl_sto2 23 sPoly _ _ rfl rfl rfl _ rfl _ rfl _ hZ1 _ _ rfl rfl rfl _ rfl _ rfl _ hY1 (by omega) ?_; intro w5 hz5 hy5 _ hB5))
      exact bodyPost_ret (res_cct rfl rfl hz5 uPoly sPoly rfl hy5 uPoly sPoly rfl) rfl ⟨rfl, hB5 _ _ hb2 (by omega) (by omega)⟩

theorem DividePolys_pair (p : Int) (f : Nat → Int) (g : Nat → Int) (_ : (Lit.int .i64 p).wf = true) (hf : By f) (hg : By g) : ∃ (r0 : (Nat → Int)) (r1 : (Nat → Int)) (r2 : Int),
    (∀ w, Calls Try.prog 30 #[.int .i64 p, .agg (u8s 64 f), .agg (u8s 64 g)] w fun e w' => e = .returned (.tuple #[.agg (u8s 64 r0), .agg (u8s 64 r1), .int .i64 r2]) ∧ Below w.heap.size w w') ∧
    (∀ w, Calls Try.prog 31 #[.int .i64 p, .agg (u8s 64 f), .agg (u8s 64 g)] w fun e w' => e = .returned (.tuple #[.agg (u8s 64 r0), .agg (u8s 64 r1), .int .i64 r2]) ∧ Below w.heap.size w w') := by
  obtain ⟨b, hb⟩ := dec_true (Good p [f, g])
  exact ⟨_, _, _, fun w => specDividePolys_any p f g w hf hg b hb _ rfl, fun w => implDividePolys_any p f g w hf hg b hb _ rfl⟩
end Go.Proofs.Ythkkicanockhgaa

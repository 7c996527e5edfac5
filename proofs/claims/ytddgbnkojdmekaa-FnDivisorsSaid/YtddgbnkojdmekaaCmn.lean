/- Several texts in one: C1, C2, C3, C4, C5. -/
import Derived.Test.YtddgbnkojdmekaaRws
import Derived.Test.YtddgbnkojdmekaaSpc
import Derived.Test.YtddgbnkojdmekaaRegs
import Derived.Test.YtddgbnkojdmekaaSpd
set_option linter.unusedVariables false
set_option linter.unusedSimpArgs false
/- Walks: sums and differences of polynomials on both sides. -/
namespace Go.Proofs.Ytddgbnkojdmekaa
open Go.RowKit

theorem by2 {f g : Nat → Int} (hf : By f) (hg : By g) : ∀ h ∈ [f, g], By h := by
  intro h hh
  simp only [List.mem_cons, List.not_mem_nil, or_false] at hh
  rcases hh with rfl | rfl
  · exact hf
  · exact hg
theorem Good.md {p : Int} {fs : List (Nat → Int)} (h : Good p fs) {f : Nat → Int} (hm : f ∈ fs) (hf : By f) : Po p (mkp 64 f) :=
  ⟨mkp_Tr _ _, Md_mkp (by have := h.1.pos; omega) fun i hi => ⟨(hf i).1, h.2 f hm i hi⟩⟩
theorem told_sum (p t : Int) (f g : Nat → Int) : u8s 64 (toldF (addp p (mkp 64 f) (mkp 64 g) t)) = u8s 64 (sumF p t f g) ∧ toldC (addp p (mkp 64 f) (mkp 64 g) t) = 0 := by
  have hL64 : (addp p (mkp 64 f) (mkp 64 g) t).length ≤ 64 := Nat.le_trans (addp_length p _ _ t) (Nat.max_le.2 ⟨mkp_length 64 f, mkp_length 64 g⟩)
  refine ⟨u8s_ext fun i hi => ?_, if_pos hL64⟩
  unfold toldF
  rw [if_pos hL64, addp_cf, mkp_cf, mkp_cf, if_pos hi, if_pos hi]; rfl
theorem mkp_big (f : Nat → Int) : (mkp 64 f).length ≤ 100000000 := by have := mkp_length 64 f; omega
theorem By_of_Po {p : Int} {xs : List Int} (hp : Pr p) (h : Po p xs) (i : Nat) : 0 ≤ cf xs i ∧ cf xs i ≤ 255 := by
  have := cf_lt7 hp h.md i; omega
set_option maxHeartbeats 1000000 in
theorem implAddPolys_any (f g : Nat → Int) (p : Int) (w : World) (hf : By f) (hg : By g) (b : Bool) (hb : Good p [f, g] ↔ b = true) :
    Calls Try.prog 11 #[.int .i64 p, .agg (u8s 64 f), .agg (u8s 64 g)] w fun e w' => e = .returned (.tuple #[.agg (u8s 64 (if b then sumF p 1 f g else fun _ => 0)), .int .i64 (codeOf b)]) ∧ Below w.heap.size w w' := by
  have hfH := Lib.hid hf; clear hf
  have hgH := Lib.hid hg; clear hg
  have hbH := Lib.hid hb; clear hb
  obtain ⟨hb0, hA, hB, hZ⟩ := boxes3 w (u8s 64 f) (u8s 64 g) (u8s 64 fun _ => 0) 25 25 25
  go_enter Try.func11, Try.ntmps11
  go_wp2_with (first | (refine wpl_alloc_arr rfl 25 rfl _ zPoly ?_) | (refine wpl_load_arr rfl 25 _ rfl _ rfl _ _ hA _ _ uPoly sPoly ?_) | (refine wpl_load_arr rfl 25 _ rfl _ rfl _ _ hB _ _ uPoly sPoly ?_) | (refine wpl_buildSlice_polys rfl 77 25 2 _ rfl Try.underlying77 sPoly zPoly [f, g] rfl (by decide) (by decide) rfl ?_))
  refine (polysCode_lit [f, g] 2 128 rfl rfl (by omega) p _ _ _ (Blk.newAt (by simp) _ _) (by2 hfH.out hgH.out) b hbH.out).mono ?_
  rintro e w1 ⟨rfl, hb1⟩
  have hb2 := below_step hb0 (below_step (below_new _ _) hb1)
  have hA1 := (hA.alloc _).keep hb1
  have hB1 := (hB.alloc _).keep hb1
  have hZ1 := (hZ.alloc _).keep hb1
  clear hA hB hZ hb0 hb1
  cases b
  · go_wp2_with (first | (refine wpl_build_zero rfl 25 64 5 rfl _ uPoly sByte zPoly ?_) | (refine wpl_store_arr rfl 25 _ _ rfl _ rfl _ rfl _ _ hZ1 sPoly rfl (u8s_oneCell _ _) ?_))
    refine bodyPost_ret (res_ct rfl rfl (hZ1.setRow_same (cs := u8s 64 fun _ => 0)) uPoly sPoly rfl) rfl ⟨rfl, below_setRow hb2 (by omega) _⟩
  · have hG := hbH.out.2 rfl
    have hpH := Lib.hid hG.1
    have hxH := Lib.hid (hG.md (f := f) (by simp) hfH.out)
    have hyH := Lib.hid (hG.md (f := g) (by simp) hgH.out)
    have hsH := Lib.hid (addp_Po (p := p) (by have := hG.1.pos; omega) (mkp 64 f) (mkp 64 g) 1)
    have hS := Lib.hid (And.intro hA1.drew.range (And.intro hB1.drew.range (And.intro hZ1.drew.there hb2.drew)))
    clear hG hA1 hB1 hZ1
    go_upto_region 4 with (fail)
    refine wp_region_noPanic ?_
    refine wp_region_held_drew (S := fun w' => w'.rangeAt w.heap.size 0 (l8 64 f) ∧ w'.rangeAt (w.heap.size + 1) 0 (l8 64 g) ∧ w'.there (w.heap.size + 1 + 1) 0 64 ∧ Below w.heap.size w w') (by kernel_rfl) hS.out (fun hHeld => ?_)
    refine anyH_val (i := 0) (.int .i64 p) rfl (by kernel_rfl) (by kernel_rfl) (by kernel_rfl) rfl (fun _ => by kernel_rfl) hHeld ?_
    simp only [Act.put, List.setIfInBounds_toArray, List.set_cons_zero, List.set_cons_succ]
    refine anyH_load (i := 1) rfl (by kernel_rfl) (by kernel_rfl) (by kernel_rfl) rfl 25 _ rfl w.heap.size 64 _ f (by kernel_rfl) (fun _ h => h.1) uPoly sPoly hHeld ?_
    simp only [Act.put, List.setIfInBounds_toArray, List.set_cons_zero, List.set_cons_succ]
    refine anyH_load (i := 3) rfl (by kernel_rfl) (by kernel_rfl) (by kernel_rfl) rfl 25 _ rfl (w.heap.size + 1) 64 _ g (by kernel_rfl) (fun _ h => h.2.1) uPoly sPoly hHeld ?_
    simp only [Act.put, List.setIfInBounds_toArray, List.set_cons_zero, List.set_cons_succ]
    refine anyH_call (i := 2) (by kernel_rfl) rfl rfl 30 _ _ rfl [.agg (u8s 64 f)] (by kernel_rfl) Try.call30 ?_
    refine (rowOf_any f _ hfH.out.on).mono ?_
    rintro e w2 ⟨v1, rfl, hr1, hb3⟩
    replace hHeld := keep2 hHeld hb3
    refine ⟨v1, rfl, hHeld, ?_⟩
    simp only [Act.put, List.setIfInBounds_toArray, List.set_cons_zero, List.set_cons_succ]
    refine anyH_call (i := 4) (by kernel_rfl) rfl rfl 30 _ _ rfl [.agg (u8s 64 g)] (by kernel_rfl) Try.call30 ?_
    refine (rowOf_any g _ hgH.out.on).mono ?_
    rintro e w3 ⟨v2, rfl, hr2, hb4⟩
    replace hHeld := keep2 hHeld hb4
    replace hr1 := hr1.below hb4
    refine ⟨v2, rfl, hHeld, ?_⟩
    simp only [Act.put, List.setIfInBounds_toArray, List.set_cons_zero, List.set_cons_succ]
    refine anyH_call (i := 5) (by kernel_rfl) rfl rfl 37 _ _ rfl [.int .i64 p, v1, v2, .int .i64 1] (by kernel_rfl) Try.call37 ?_
    refine (combine_any _ _ (mkp 64 f) (mkp 64 g) p _ _ hpH.out hr1 hr2 hxH.out.md hyH.out.md (by decide) (by decide) (mkp_big f) (mkp_big g)).mono ?_
    rintro e w4 ⟨v3, rfl, hr3, hb5⟩
    replace hHeld := keep2 hHeld hb5
    refine ⟨v3, rfl, hHeld, ?_⟩
    simp only [Act.put, List.setIfInBounds_toArray, List.set_cons_zero, List.set_cons_succ]
    refine anyH_call (i := 6) (by kernel_rfl) rfl rfl 35 _ _ rfl [v3] (by kernel_rfl) Try.call35 ?_
    refine (told_any _ _ _ hr3 (fun i => By_of_Po hpH.out hsH.out i)).mono ?_
    rintro e w5 ⟨rfl, hb6⟩
    replace hHeld := keep2 hHeld hb6
    refine ⟨_, rfl, hHeld, ?_⟩
    rw [(told_sum p 1 f g).1, (told_sum p 1 f g).2]
    simp only [Act.put, List.setIfInBounds_toArray, List.set_cons_zero, List.set_cons_succ]
    refine anyH_extract (i := 7) rfl (by kernel_rfl) (by kernel_rfl) (by kernel_rfl) rfl _ 0 rfl #[.agg (u8s 64 (sumF p 1 f g)), .int .i64 0] (by kernel_rfl) (.agg (u8s 64 (sumF p 1 f g))) (by simp) hHeld ?_
    simp only [Act.put, List.setIfInBounds_toArray, List.set_cons_zero, List.set_cons_succ]
    refine anyH_extract (i := 8) rfl (by kernel_rfl) (by kernel_rfl) (by kernel_rfl) rfl _ 1 rfl #[.agg (u8s 64 (sumF p 1 f g)), .int .i64 0] (by kernel_rfl) (.int .i64 0) (by simp) hHeld ?_
    simp only [Act.put, List.setIfInBounds_toArray, List.set_cons_zero, List.set_cons_succ]
    refine anyH_store (i := 9) (by kernel_rfl) rfl rfl 25 _ _ rfl (w.heap.size + 1 + 1) 64 (by kernel_rfl) (sumF p 1 f g) (by kernel_rfl) hHeld.2.2.1 sPoly ?_
    have hHeld2 := keep2_store (vs := l8 64 (sumF p 1 f g)) (by omega) (by omega) (by omega) hHeld
    have hres := World.rangeAt_setCells_same w5 (w.heap.size + 1 + 1) 0 (l8 64 (sumF p 1 f g)) (by rw [l8_len]; exact hHeld.2.2.1)
    refine ⟨hHeld2, ?_⟩
    simp only [Act.put, List.setIfInBounds_toArray, List.set_cons_zero, List.set_cons_succ]
    refine anyH_val (i := 10) (.int .i64 0) rfl (by kernel_rfl) (by kernel_rfl) (by kernel_rfl) rfl (fun _ => by kernel_rfl) hHeld2 ?_
    simp only [Act.put, List.setIfInBounds_toArray, List.set_cons_zero, List.set_cons_succ]
    refine wpAnyH_done (by kernel_rfl) (NoPanic.normal ?_) _
    clear hHeld
    go_wp2_with fail
    exact bodyPost_ret (res_ct_mid rfl rfl hres uPoly (by rw [l8_len]; exact sPoly) rfl) rfl ⟨rfl, hHeld2.2.2.2⟩

set_option maxHeartbeats 1000000 in
theorem specSubtractPolys_any (f g : Nat → Int) (p : Int) (w : World) (hf : By f) (hg : By g) (b : Bool) (hb : Good p [f, g] ↔ b = true) :
    Calls Try.prog 24 #[.int .i64 p, .agg (u8s 64 f), .agg (u8s 64 g)] w fun e w' => e = .returned (.tuple #[.agg (u8s 64 (if b then sumF p (-1) f g else fun _ => 0)), .int .i64 (codeOf b)]) ∧ Below w.heap.size w w' := by
  have hfH := Lib.hid hf; clear hf
  have hgH := Lib.hid hg; clear hg
  have hbH := Lib.hid hb; clear hb
  obtain ⟨hb0, hA, hB, hZ⟩ := boxes3 w (u8s 64 f) (u8s 64 g) (u8s 64 fun _ => 0) 25 25 25
  go_enter Try.func24, Try.ntmps24
  go_wp2_with (first | (refine wpl_alloc_arr rfl 25 rfl _ zPoly ?_) | (refine wpl_load_arr rfl 25 _ rfl _ rfl _ _ hA _ _ uPoly sPoly ?_) | (refine wpl_load_arr rfl 25 _ rfl _ rfl _ _ hB _ _ uPoly sPoly ?_) | (refine wpl_buildSlice_polys rfl 77 25 2 _ rfl Try.underlying77 sPoly zPoly [f, g] rfl (by decide) (by decide) rfl ?_))
  refine (l01Code_lit [f, g] 2 128 rfl rfl (by omega) p _ _ _ (Blk.newAt (by simp) _ _) (by2 hfH.out hgH.out) b hbH.out).mono ?_
  rintro e w1 ⟨rfl, hb1⟩
  have hb2 := below_step hb0 (below_step (below_new _ _) hb1)
  have hA1 := (hA.alloc _).keep hb1
  have hB1 := (hB.alloc _).keep hb1
  have hZ1 := (hZ.alloc _).keep hb1
  clear hA hB hZ hb0 hb1
  cases b
  · go_wp2_with (first | (refine wpl_build_zero rfl 25 64 5 rfl _ uPoly sByte zPoly ?_) | (refine wpl_store_arr rfl 25 _ _ rfl _ rfl _ rfl _ _ hZ1 sPoly rfl (u8s_oneCell _ _) ?_))
    refine bodyPost_ret (res_ct rfl rfl (hZ1.setRow_same (cs := u8s 64 fun _ => 0)) uPoly sPoly rfl) rfl ⟨rfl, below_setRow hb2 (by omega) _⟩
  · have hpH := Lib.hid (hbH.out.2 rfl).1
    go_wp2_with (first | (refine wpl_load_arr rfl 25 _ rfl _ rfl _ _ hA1 _ _ uPoly sPoly ?_) | (refine wpl_load_arr rfl 25 _ rfl _ rfl _ _ hB1 _ _ uPoly sPoly ?_))
    refine (l01Add_sum f g p (-1) _ hpH.out hfH.out hgH.out (by decide) (by decide)).mono ?_
    rintro e w2 ⟨rfl, hb3⟩
    have hZ2 := hZ1.keep hb3
    have hb4 := below_step hb2 hb3
    clear hA1 hB1 hZ1 hb2 hb3
    go_wp2_with (refine wpl_store_arr rfl 25 _ _ rfl _ rfl _ rfl _ _ hZ2 sPoly rfl (u8s_oneCell _ _) ?_)
    exact bodyPost_ret (res_ct rfl rfl (hZ2.setRow_same (cs := u8s 64 (sumF p (-1) f g))) uPoly sPoly rfl) rfl ⟨rfl, below_setRow hb4 (by omega) _⟩

set_option maxHeartbeats 1000000 in
theorem implSubtractPolys_any (f g : Nat → Int) (p : Int) (w : World) (hf : By f) (hg : By g) (b : Bool) (hb : Good p [f, g] ↔ b = true) :
    Calls Try.prog 23 #[.int .i64 p, .agg (u8s 64 f), .agg (u8s 64 g)] w fun e w' => e = .returned (.tuple #[.agg (u8s 64 (if b then sumF p (-1) f g else fun _ => 0)), .int .i64 (codeOf b)]) ∧ Below w.heap.size w w' := by
  have hfH := Lib.hid hf; clear hf
  have hgH := Lib.hid hg; clear hg
  have hbH := Lib.hid hb; clear hb
  obtain ⟨hb0, hA, hB, hZ⟩ := boxes3 w (u8s 64 f) (u8s 64 g) (u8s 64 fun _ => 0) 25 25 25
  go_enter Try.func23, Try.ntmps23
  go_wp2_with (first | (refine wpl_alloc_arr rfl 25 rfl _ zPoly ?_) | (refine wpl_load_arr rfl 25 _ rfl _ rfl _ _ hA _ _ uPoly sPoly ?_) | (refine wpl_load_arr rfl 25 _ rfl _ rfl _ _ hB _ _ uPoly sPoly ?_) | (refine wpl_buildSlice_polys rfl 77 25 2 _ rfl Try.underlying77 sPoly zPoly [f, g] rfl (by decide) (by decide) rfl ?_))
  refine (polysCode_lit [f, g] 2 128 rfl rfl (by omega) p _ _ _ (Blk.newAt (by simp) _ _) (by2 hfH.out hgH.out) b hbH.out).mono ?_
  rintro e w1 ⟨rfl, hb1⟩
  have hb2 := below_step hb0 (below_step (below_new _ _) hb1)
  have hA1 := (hA.alloc _).keep hb1
  have hB1 := (hB.alloc _).keep hb1
  have hZ1 := (hZ.alloc _).keep hb1
  clear hA hB hZ hb0 hb1
  cases b
  · go_wp2_with (first | (refine wpl_build_zero rfl 25 64 5 rfl _ uPoly sByte zPoly ?_) | (refine wpl_store_arr rfl 25 _ _ rfl _ rfl _ rfl _ _ hZ1 sPoly rfl (u8s_oneCell _ _) ?_))
    refine bodyPost_ret (res_ct rfl rfl (hZ1.setRow_same (cs := u8s 64 fun _ => 0)) uPoly sPoly rfl) rfl ⟨rfl, below_setRow hb2 (by omega) _⟩
  · have hG := hbH.out.2 rfl
    have hpH := Lib.hid hG.1
    have hxH := Lib.hid (hG.md (f := f) (by simp) hfH.out)
    have hyH := Lib.hid (hG.md (f := g) (by simp) hgH.out)
    have hsH := Lib.hid (addp_Po (p := p) (by have := hG.1.pos; omega) (mkp 64 f) (mkp 64 g) (-1))
    have hS := Lib.hid (And.intro hA1.drew.range (And.intro hB1.drew.range (And.intro hZ1.drew.there hb2.drew)))
    clear hG hA1 hB1 hZ1
    go_upto_region 4 with (fail)
    refine wp_region_noPanic ?_
    refine wp_region_held_drew (S := fun w' => w'.rangeAt w.heap.size 0 (l8 64 f) ∧ w'.rangeAt (w.heap.size + 1) 0 (l8 64 g) ∧ w'.there (w.heap.size + 1 + 1) 0 64 ∧ Below w.heap.size w w') (by kernel_rfl) hS.out (fun hHeld => ?_)
    refine anyH_val (i := 0) (.int .i64 p) rfl (by kernel_rfl) (by kernel_rfl) (by kernel_rfl) rfl (fun _ => by kernel_rfl) hHeld ?_
    simp only [Act.put, List.setIfInBounds_toArray, List.set_cons_zero, List.set_cons_succ]
    refine anyH_load (i := 1) rfl (by kernel_rfl) (by kernel_rfl) (by kernel_rfl) rfl 25 _ rfl w.heap.size 64 _ f (by kernel_rfl) (fun _ h => h.1) uPoly sPoly hHeld ?_
    simp only [Act.put, List.setIfInBounds_toArray, List.set_cons_zero, List.set_cons_succ]
    refine anyH_load (i := 3) rfl (by kernel_rfl) (by kernel_rfl) (by kernel_rfl) rfl 25 _ rfl (w.heap.size + 1) 64 _ g (by kernel_rfl) (fun _ h => h.2.1) uPoly sPoly hHeld ?_
    simp only [Act.put, List.setIfInBounds_toArray, List.set_cons_zero, List.set_cons_succ]
    refine anyH_call (i := 2) (by kernel_rfl) rfl rfl 30 _ _ rfl [.agg (u8s 64 f)] (by kernel_rfl) Try.call30 ?_
    refine (rowOf_any f _ hfH.out.on).mono ?_
    rintro e w2 ⟨v1, rfl, hr1, hb3⟩
    replace hHeld := keep2 hHeld hb3
    refine ⟨v1, rfl, hHeld, ?_⟩
    simp only [Act.put, List.setIfInBounds_toArray, List.set_cons_zero, List.set_cons_succ]
    refine anyH_call (i := 4) (by kernel_rfl) rfl rfl 30 _ _ rfl [.agg (u8s 64 g)] (by kernel_rfl) Try.call30 ?_
    refine (rowOf_any g _ hgH.out.on).mono ?_
    rintro e w3 ⟨v2, rfl, hr2, hb4⟩
    replace hHeld := keep2 hHeld hb4
    replace hr1 := hr1.below hb4
    refine ⟨v2, rfl, hHeld, ?_⟩
    simp only [Act.put, List.setIfInBounds_toArray, List.set_cons_zero, List.set_cons_succ]
    refine anyH_call (i := 5) (by kernel_rfl) rfl rfl 37 _ _ rfl [.int .i64 p, v1, v2, .int .i64 (-1)] (by kernel_rfl) Try.call37 ?_
    refine (combine_any _ _ (mkp 64 f) (mkp 64 g) p _ _ hpH.out hr1 hr2 hxH.out.md hyH.out.md (by decide) (by decide) (mkp_big f) (mkp_big g)).mono ?_
    rintro e w4 ⟨v3, rfl, hr3, hb5⟩
    replace hHeld := keep2 hHeld hb5
    refine ⟨v3, rfl, hHeld, ?_⟩
    simp only [Act.put, List.setIfInBounds_toArray, List.set_cons_zero, List.set_cons_succ]
    refine anyH_call (i := 6) (by kernel_rfl) rfl rfl 35 _ _ rfl [v3] (by kernel_rfl) Try.call35 ?_
    refine (told_any _ _ _ hr3 (fun i => By_of_Po hpH.out hsH.out i)).mono ?_
    rintro e w5 ⟨rfl, hb6⟩
    replace hHeld := keep2 hHeld hb6
    refine ⟨_, rfl, hHeld, ?_⟩
    rw [(told_sum p (-1) f g).1, (told_sum p (-1) f g).2]
    simp only [Act.put, List.setIfInBounds_toArray, List.set_cons_zero, List.set_cons_succ]
    refine anyH_extract (i := 7) rfl (by kernel_rfl) (by kernel_rfl) (by kernel_rfl) rfl _ 0 rfl #[.agg (u8s 64 (sumF p (-1) f g)), .int .i64 0] (by kernel_rfl) (.agg (u8s 64 (sumF p (-1) f g))) (by simp) hHeld ?_
    simp only [Act.put, List.setIfInBounds_toArray, List.set_cons_zero, List.set_cons_succ]
    refine anyH_extract (i := 8) rfl (by kernel_rfl) (by kernel_rfl) (by kernel_rfl) rfl _ 1 rfl #[.agg (u8s 64 (sumF p (-1) f g)), .int .i64 0] (by kernel_rfl) (.int .i64 0) (by simp) hHeld ?_
    simp only [Act.put, List.setIfInBounds_toArray, List.set_cons_zero, List.set_cons_succ]
    refine anyH_store (i := 9) (by kernel_rfl) rfl rfl 25 _ _ rfl (w.heap.size + 1 + 1) 64 (by kernel_rfl) (sumF p (-1) f g) (by kernel_rfl) hHeld.2.2.1 sPoly ?_
    have hHeld2 := keep2_store (vs := l8 64 (sumF p (-1) f g)) (by omega) (by omega) (by omega) hHeld
    have hres := World.rangeAt_setCells_same w5 (w.heap.size + 1 + 1) 0 (l8 64 (sumF p (-1) f g)) (by rw [l8_len]; exact hHeld.2.2.1)
    refine ⟨hHeld2, ?_⟩
    simp only [Act.put, List.setIfInBounds_toArray, List.set_cons_zero, List.set_cons_succ]
    refine anyH_val (i := 10) (.int .i64 0) rfl (by kernel_rfl) (by kernel_rfl) (by kernel_rfl) rfl (fun _ => by kernel_rfl) hHeld2 ?_
    simp only [Act.put, List.setIfInBounds_toArray, List.set_cons_zero, List.set_cons_succ]
    refine wpAnyH_done (by kernel_rfl) (NoPanic.normal ?_) _
    clear hHeld
    go_wp2_with fail
    exact bodyPost_ret (res_ct_mid rfl rfl hres uPoly (by rw [l8_len]; exact sPoly) rfl) rfl ⟨rfl, hHeld2.2.2.2⟩

theorem SubtractPolys_pair (p : Int) (f g : Nat → Int) (_ : (Lit.int .i64 p).wf = true) (hf : By f) (hg : By g) : ∃ (r0 : Nat → Int) (r1 : Int),
    (∀ w, Calls Try.prog 24 #[.int .i64 p, .agg (u8s 64 f), .agg (u8s 64 g)] w fun e w' => e = .returned (.tuple #[.agg (u8s 64 r0), .int .i64 r1]) ∧ Below w.heap.size w w') ∧
    (∀ w, Calls Try.prog 23 #[.int .i64 p, .agg (u8s 64 f), .agg (u8s 64 g)] w fun e w' => e = .returned (.tuple #[.agg (u8s 64 r0), .int .i64 r1]) ∧ Below w.heap.size w w') := by
  obtain ⟨b, hb⟩ := dec_true (Good p [f, g])
  exact ⟨_, _, fun w => specSubtractPolys_any f g p w hf hg b hb, fun w => implSubtractPolys_any f g p w hf hg b hb⟩
end Go.Proofs.Ytddgbnkojdmekaa

/- Walks: products and divisions of polynomials on both sides. -/
namespace Go.Proofs.Ytddgbnkojdmekaa
open Go.RowKit

theorem Good.p64 {p : Int} {fs : List (Nat → Int)} (h : Good p fs) {f : Nat → Int} (hm : f ∈ fs) (hf : By f) : P64 p (mkp 64 f) := ⟨h.1, h.md hm hf, mkp_length 64 f⟩
theorem u8s_mkp (f : Nat → Int) : u8s 64 f = u8s 64 (cf (mkp 64 f)) := u8s_ext fun i hi => by rw [mkp_cf, if_pos hi]
theorem l01Times_arr (f g : Nat → Int) (p : Int) (w : World) (hx : P64 p (mkp 64 f)) (hy : P64 p (mkp 64 g)) :
    Calls Try.prog 53 #[.int .i64 p, .agg (u8s 64 f), .agg (u8s 64 g)] w fun e w' => e = .returned (.tuple #[.agg (u8s 64 (toldF (mulp p (mkp 64 f) (mkp 64 g)))), .bool (decide ((mulp p (mkp 64 f) (mkp 64 g)).length ≤ 64))]) ∧ Below w.heap.size w w' := by
  rw [u8s_mkp f, u8s_mkp g]; exact l01Times_any _ _ p w hx hy
set_option maxRecDepth 20000 in
set_option maxHeartbeats 2000000 in
theorem implMultiplyPolys_any (p : Int) (f : Nat → Int) (g : Nat → Int) (w : World) (hf : By f) (hg : By g) (b : Bool) (hb : Good p [f, g] ↔ b = true) :
    Calls Try.prog 10 #[.int .i64 p, .agg (u8s 64 f), .agg (u8s 64 g)] w fun e w' => e = .returned (.tuple #[.agg (u8s 64 (if b then toldF (mulp p (mkp 64 f) (mkp 64 g)) else fun _ => 0)), .int .i64 (if b then toldC (mulp p (mkp 64 f) (mkp 64 g)) else 1)]) ∧ Below w.heap.size w w' := by
  obtain ⟨M, hM⟩ : ∃ M, mulp p (mkp 64 f) (mkp 64 g) = M := ⟨_, rfl⟩
  rw [hM]
  have hMM := Lib.hid hM
  clear hM
  have hfH := Lib.hid hf; clear hf
  have hgH := Lib.hid hg; clear hg
  have hbH := Lib.hid hb; clear hb
  obtain ⟨hb0, hA, hB, hZ⟩ := boxes3 w (u8s 64 f) (u8s 64 g) (u8s 64 fun _ => 0) 25 25 25
  go_enter Try.func10, Try.ntmps10
  go_wp2_with (first | (refine wpl_alloc_arr rfl 25 rfl _ zPoly ?_) | (refine wpl_load_arr rfl 25 _ rfl _ rfl _ _ hA _ _ uPoly sPoly ?_) | (refine wpl_load_arr rfl 25 _ rfl _ rfl _ _ hB _ _ uPoly sPoly ?_) | (refine wpl_buildSlice_polys rfl 77 25 2 _ rfl Try.underlying77 sPoly zPoly [f, g] rfl (by decide) (by decide) rfl ?_))
  refine (polysCode_lit [f, g] 2 128 rfl rfl (by omega) p _ _ _ (Blk.newAt (by simp) _ _) (by2 hfH.out hgH.out) b hbH.out).mono ?_
  rintro e w1 ⟨rfl, hb1⟩
  have hb2 := below_step hb0 (below_step (below_new _ _) hb1)
  have hA1 := (hA.alloc _).keep hb1
  have hB1 := (hB.alloc _).keep hb1
  have hZ1 := (hZ.alloc _).keep hb1
  clear hA hB hZ hb0 hb1
  cases b
  · go_wp2_with (first | (refine wpl_build_zero rfl 25 64 5 rfl _ uPoly sByte zPoly ?_) | (refine wpl_store_arr rfl 25 _ _ rfl _ rfl _ rfl _ _ hZ1 sPoly rfl (u8s_oneCell _ _) ?_))
    exact bodyPost_ret (res_ct rfl rfl (hZ1.setRow_same (cs := u8s 64 fun _ => 0)) uPoly sPoly rfl) rfl ⟨rfl, below_setRow hb2 (by omega) _⟩
  · have hG := hbH.out.2 rfl
    have hxH := Lib.hid (hG.p64 (f := f) (by simp) hfH.out)
    have hyH := Lib.hid (hG.p64 (f := g) (by simp) hgH.out)
    have hMH := Lib.hid (show Po p M from hMM.out ▸ mulp_Po (p := p) (by have := hG.1.pos; omega) (mkp 64 f) (mkp 64 g))
    clear hG
    go_upto_region 4 with (fail)
    refine gen_region (ws := w) (w := _) (B := w.heap.size) (by kernel_rfl) (by kernel_rfl) (by kernel_rfl) (by kernel_rfl)
        (fun i => ([fun v _ => v = .int .i64 p, fun v _ => v = .agg (u8s 64 f), fun v w => IsRow w v (mkp 64 f), fun v _ => v = .agg (u8s 64 g), fun v w => IsRow w v (mkp 64 g), fun v w => IsRow w v (M), fun v _ => v = .tuple #[.agg (u8s 64 (toldF M)), .int .i64 (toldC M)], fun v _ => v = .agg (u8s 64 (toldF M)), fun v _ => v = .int .i64 (toldC M), fun _ _ => True, fun v _ => v = .int .i64 (toldC M)] : List (Value → World → Prop)).getD i (fun _ _ => True))
        (fun i => ([true, true, false, true, false, false, false, true, true, true, true] : List Bool).getD i true)
        1 (fun k => [9].getD k 0) (fun k => [7].getD k 0) (fun k => [6].getD k 0) (fun k => [25].getD k 0) (fun k => [w.heap.size + 1 + 1].getD k 0) (fun k => [64].getD k 0) (fun k => [(toldF M)].getD k (fun _ => 0)) (fun k => [(fun _ => 0)].getD k (fun _ => 0)) (fun k => [25].getD k 0) hb2 (Nat.le_refl _)
        (fun w' => Blk w' (w.heap.size) (u8s 64 f) 25 ∧ Blk w' (w.heap.size + 1) (u8s 64 g) 25 ∧ True) ⟨hA1.drew, hB1.drew, trivial⟩ (fun w1 w2 h hb => ⟨h.1.keep hb, h.2.1.keep hb, trivial⟩) ?_ ?_ ?_ ?_ ?_ ?_ ?_
    · intro k hk w1 cs h
      rcases k with _|k
      · exact ⟨h.1.setRow_other (by simp only [List.getD_cons_zero, List.getD_cons_succ] <;> omega), h.2.1.setRow_other (by simp only [List.getD_cons_zero, List.getD_cons_succ] <;> omega), trivial⟩
      · omega
    · intro i v w1 w2 h hb
      rcases i with _|_|_|_|_|_|_|_|_|_|_|i
      · exact h
      · exact h
      · exact (show IsRow w1 v (mkp 64 f) from h).below hb
      · exact h
      · exact (show IsRow w1 v (mkp 64 g) from h).below hb
      · exact (show IsRow w1 v (M) from h).below hb
      · exact h
      · exact h
      · exact h
      · exact h
      · exact h
      · exact h
    · intro k hk
      rcases k with _|k
      · kernel_rfl
      · omega
    · intro k hk
      rcases k with _|k
      · refine ⟨?_, (by kernel_rfl), hZ1, fun v w' h => h, by decide, ?_⟩
        · simp only [List.getD_cons_zero, List.getD_cons_succ] <;> omega
        · intro k' hk' hne
          rcases k' with _|k'
          all_goals first | omega | exact absurd rfl hne | (refine ⟨?_, by decide⟩; simp only [List.getD_cons_zero, List.getD_cons_succ]; omega)
      · omega
    · kernel_rfl
    · intro i o ho hz a w2 hBs hSx hBl hrd hpar
      rcases i with _|_|_|_|_|_|_|_|_|_|_|i
      · obtain rfl := Option.some.inj ho
        have e0 : a.eval (.tmp 0) = .int .i64 p := hpar 0 _ (by kernel_rfl) (by kernel_rfl)
        exact wpv_of (wp_move _ _ rfl e0) (fun _ _ => rfl)
      · obtain rfl := Option.some.inj ho
        exact wpv_of (wp_loadB 25 _ rfl _ (hpar 4 (.pointer (some ⟨w.heap.size, 0, none⟩)) (by kernel_rfl) (by kernel_rfl)) _ _ hSx.1 _ _ uPoly sPoly) (fun _ _ => rfl)
      · obtain rfl := Option.some.inj ho
        obtain ⟨_, e19⟩ : ∃ _w : World, a.eval (.tmp 19) = .agg (u8s 64 f) := (hrd 1 _ 19 rfl rfl (by kernel_rfl) (by kernel_rfl) (by decide)).1
        exact wpv_call 30 [.tmp 19] _ rfl [.agg (u8s 64 f)] (by simp only [List.map_cons, List.map_nil, e19]) Try.call30 (rowOf_any f w2 hfH.out.on)
      · obtain rfl := Option.some.inj ho
        exact wpv_of (wp_loadB 25 _ rfl _ (hpar 5 (.pointer (some ⟨w.heap.size + 1, 0, none⟩)) (by kernel_rfl) (by kernel_rfl)) _ _ hSx.2.1 _ _ uPoly sPoly) (fun _ _ => rfl)
      · obtain rfl := Option.some.inj ho
        obtain ⟨_, e21⟩ : ∃ _w : World, a.eval (.tmp 21) = .agg (u8s 64 g) := (hrd 3 _ 21 rfl rfl (by kernel_rfl) (by kernel_rfl) (by decide)).1
        exact wpv_call 30 [.tmp 21] _ rfl [.agg (u8s 64 g)] (by simp only [List.map_cons, List.map_nil, e21]) Try.call30 (rowOf_any g w2 hgH.out.on)
      · obtain rfl := Option.some.inj ho
        obtain ⟨_, e18⟩ : ∃ _w : World, a.eval (.tmp 18) = .int .i64 p := (hrd 0 _ 18 rfl rfl (by kernel_rfl) (by kernel_rfl) (by decide)).1
        have h20 : (fun v w => IsRow w v (mkp 64 f)) (a.eval (.tmp 20)) w2 := (hrd 2 _ 20 rfl rfl (by kernel_rfl) (by kernel_rfl) (by decide)).2 rfl
        generalize e20 : a.eval (.tmp 20) = v20 at h20
        have h22 : (fun v w => IsRow w v (mkp 64 g)) (a.eval (.tmp 22)) w2 := (hrd 4 _ 22 rfl rfl (by kernel_rfl) (by kernel_rfl) (by decide)).2 rfl
        generalize e22 : a.eval (.tmp 22) = v22 at h22
        exact wpv_call 36 [.tmp 18, .tmp 20, .tmp 22] _ rfl [.int .i64 p, v20, v22] (by simp only [List.map_cons, List.map_nil, e18, e20, e22]) Try.call36 ((times_any _ _ _ _ p w2 hxH.out.pr h20 h22 hxH.out.po.md hyH.out.po.md (by have := hxH.out.le; omega) (by have := hyH.out.le; omega)).mono fun _ _ ⟨v, h1, h2, h3⟩ => ⟨v, h1, hMM.out ▸ h2, h3⟩)
      · obtain rfl := Option.some.inj ho
        have h23 : (fun v w => IsRow w v (M)) (a.eval (.tmp 23)) w2 := (hrd 5 _ 23 rfl rfl (by kernel_rfl) (by kernel_rfl) (by decide)).2 rfl
        generalize e23 : a.eval (.tmp 23) = v23 at h23
        exact wpv_call 35 [.tmp 23] _ rfl [v23] (by simp only [List.map_cons, List.map_nil, e23]) Try.call35 ((told_any _ _ w2 h23 (fun i => By_of_Po hxH.out.pr hMH.out i)).mono fun _ _ ⟨h1, h2⟩ => ⟨_, h1, rfl, h2⟩)
      · obtain rfl := Option.some.inj ho
        obtain ⟨_, e24⟩ : ∃ _w : World, a.eval (.tmp 24) = .tuple #[.agg (u8s 64 (toldF M)), .int .i64 (toldC M)] := (hrd 6 _ 24 rfl rfl (by kernel_rfl) (by kernel_rfl) (by decide)).1
        exact wpv_of (wp_extract _ 0 #[.agg (u8s 64 (toldF M)), .int .i64 (toldC M)] _ rfl e24 rfl) (fun _ _ => rfl)
      · obtain rfl := Option.some.inj ho
        obtain ⟨_, e24⟩ : ∃ _w : World, a.eval (.tmp 24) = .tuple #[.agg (u8s 64 (toldF M)), .int .i64 (toldC M)] := (hrd 6 _ 24 rfl rfl (by kernel_rfl) (by kernel_rfl) (by decide)).1
        exact wpv_of (wp_extract _ 1 #[.agg (u8s 64 (toldF M)), .int .i64 (toldC M)] _ rfl e24 rfl) (fun _ _ => rfl)
      · exact absurd rfl (hz 0 (by decide))
      · obtain rfl := Option.some.inj ho
        obtain ⟨_, e26⟩ : ∃ _w : World, a.eval (.tmp 26) = .int .i64 (toldC M) := (hrd 8 _ 26 rfl rfl (by kernel_rfl) (by kernel_rfl) (by decide)).1
        exact wpv_of (wp_assign _ _ rfl e26) (fun _ _ => rfl)
      · simp at ho
    intro vals xE hBx hSx hS0 hcs hrs
    obtain ⟨_, e0⟩ : ∃ _w : World, vals 0 = .int .i64 p := hcs 0 (by simp) (by decide)
    obtain ⟨_, e1⟩ : ∃ _w : World, vals 1 = .agg (u8s 64 f) := hcs 1 (by simp) (by decide)
    obtain ⟨_, e3⟩ : ∃ _w : World, vals 3 = .agg (u8s 64 g) := hcs 3 (by simp) (by decide)
    obtain ⟨_, e6⟩ : ∃ _w : World, vals 6 = .tuple #[.agg (u8s 64 (toldF M)), .int .i64 (toldC M)] := hcs 6 (by simp) (by decide)
    obtain ⟨_, e7⟩ : ∃ _w : World, vals 7 = .agg (u8s 64 (toldF M)) := hcs 7 (by simp) (by decide)
    obtain ⟨_, e8⟩ : ∃ _w : World, vals 8 = .int .i64 (toldC M) := hcs 8 (by simp) (by decide)
    obtain ⟨_, e10⟩ : ∃ _w : World, vals 10 = .int .i64 (toldC M) := hcs 10 (by simp) (by decide)
    have hsE0 : Blk xE (w.heap.size + 1 + 1) (u8s 64 (toldF M)) 25 := hrs 0 (by decide)
    simp only [List.length_cons, List.length_nil, Nat.zero_add, Nat.reduceAdd, List.replicate, putAll, if_true, Act.put, List.setIfInBounds_toArray, List.set_cons_zero, List.set_cons_succ, e0, e1, e3, e6, e7, e8, e10]
    replace hA1 := hSx.1
    replace hB1 := hSx.2.1
    clear hcs hrs hS0 hSx e0 e1 e3 e6 e7 e8 e10
    go_wp2_with fail
    exact bodyPost_ret (res_ct (x := .int .i64 (toldC M)) rfl rfl hsE0 uPoly sPoly rfl) rfl ⟨rfl, hBx⟩

end Go.Proofs.Ytddgbnkojdmekaa

/- Walks: divisions of polynomials on both sides. -/
namespace Go.Proofs.Ytddgbnkojdmekaa
open Go.RowKit

theorem mkp_zero_iff (g : Nat → Int) : (mkp 64 g).length = 0 ↔ ∀ i, i < 64 → g i = 0 := by
  constructor
  · intro h i hi
    have := mkp_cf 64 g i
    rw [if_pos hi, List.length_eq_zero_iff.1 h, cf_nil] at this
    exact this.symm
  · intro h
    have := Tr_length_le (mkp_Tr 64 g) (n := 0) fun i _ => by rw [mkp_cf]; split; (· exact h i ‹_›); rfl
    omega
theorem mkp_zero_dec (g : Nat → Int) {z : Bool} (h : decide ((mkp 64 g).length = 0) = z) {inst : Decidable (∀ i, i < 64 → g i = 0)} : @decide (∀ i, i < 64 → g i = 0) inst = z := by
  rw [← h]; exact decide_eq_decide.2 (mkp_zero_iff g).symm
set_option maxRecDepth 20000 in
set_option maxHeartbeats 2000000 in
theorem implDividePolys_any (p : Int) (f : Nat → Int) (g : Nat → Int) (w : World) (hf : By f) (hg : By g) (b : Bool) (hb : Good p [f, g] ↔ b = true) (z : Bool) (hz : decide ((mkp 64 g).length = 0) = z) :
    Calls Try.prog 9 #[.int .i64 p, .agg (u8s 64 f), .agg (u8s 64 g)] w fun e w' => e = .returned (.tuple #[.agg (u8s 64 (if b then (if z then (fun _ => 0) else cf (divp p (mkp 64 f) (mkp 64 g)).1) else fun _ => 0)), .agg (u8s 64 (if b then (if z then (fun _ => 0) else cf (divp p (mkp 64 f) (mkp 64 g)).2) else fun _ => 0)), .int .i64 (if b then (if z then 5 else 0) else 1)]) ∧ Below w.heap.size w w' := by
  obtain ⟨D1, hD1⟩ : ∃ M, (divp p (mkp 64 f) (mkp 64 g)).1 = M := ⟨_, rfl⟩
  obtain ⟨D2, hD2⟩ : ∃ M, (divp p (mkp 64 f) (mkp 64 g)).2 = M := ⟨_, rfl⟩
  rw [hD1, hD2]
  have hDD := Lib.hid (And.intro hD1 hD2)
  have hzH := Lib.hid hz
  clear hD1 hD2 hz
  have hfH := Lib.hid hf; clear hf
  have hgH := Lib.hid hg; clear hg
  have hbH := Lib.hid hb; clear hb
  obtain ⟨hb0, hA, hB, hZ, hY⟩ := boxes4 w (u8s 64 f) (u8s 64 g) (u8s 64 fun _ => 0) (u8s 64 fun _ => 0) 25 25 25 25
  go_enter Try.func9, Try.ntmps9
  go_wp2_with (first | (refine wpl_alloc_arr rfl 25 rfl _ zPoly ?_) | (refine wpl_load_arr rfl 25 _ rfl _ rfl _ _ hA _ _ uPoly sPoly ?_) | (refine wpl_load_arr rfl 25 _ rfl _ rfl _ _ hB _ _ uPoly sPoly ?_) | (refine wpl_buildSlice_polys rfl 77 25 2 _ rfl Try.underlying77 sPoly zPoly [f, g] rfl (by decide) (by decide) rfl ?_))
  refine (polysCode_lit [f, g] 2 128 rfl rfl (by omega) p _ _ _ (Blk.newAt (by simp) _ _) (by2 hfH.out hgH.out) b hbH.out).mono ?_
  rintro e w1 ⟨rfl, hb1⟩
  have hb2 := below_step hb0 (below_step (below_new _ _) hb1)
  have hA1 := (hA.alloc _).keep hb1
  have hB1 := (hB.alloc _).keep hb1
  have hZ1 := (hZ.alloc _).keep hb1
  have hY1 := (hY.alloc _).keep hb1
  clear hA hB hZ hY hb0 hb1
  cases b
  · go_wp2_with (first | (refine wpl_build_zero rfl 25 64 5 rfl _ uPoly sByte zPoly ?_) | (refine wpl_sto2 25 sPoly _ _ rfl rfl rfl _ rfl _ rfl _ hZ1 _ _ rfl rfl rfl _ rfl _ rfl _ hY1 (by omega) ?_; intro w5 hz5 hy5 _ hB5))
    exact bodyPost_ret (res_cct rfl rfl hz5 uPoly sPoly rfl hy5 uPoly sPoly rfl) rfl ⟨rfl, hB5 _ _ hb2 (by omega) (by omega)⟩
  · have hG := hbH.out.2 rfl
    have hxH := Lib.hid (hG.p64 (f := f) (by simp) hfH.out)
    have hyH := Lib.hid (hG.p64 (f := g) (by simp) hgH.out)
    clear hG
    cases z
    · have hneH := Lib.hid (show mkp 64 g ≠ [] from fun e => of_decide_eq_false hzH.out (by rw [e]; rfl))
      have hq1 := Lib.hid (show P64 p D1 from hDD.out.1 ▸ hxH.out.quot hyH.out hneH.out)
      have hq2 := Lib.hid (show P64 p D2 from hDD.out.2 ▸ hxH.out.rest hyH.out hneH.out)
      go_wp2_with (first | (refine wpl_build_zero rfl 25 64 5 rfl _ uPoly sByte zPoly ?_) | (refine wpl_eql_arr rfl 25 _ _ _ rfl 64 .u8 g (fun _ => 0) 5 rfl rfl uPoly uByte sByte gPoly _ (mkp_zero_dec g hzH.out) ?_) | (refine wpl_load_arr rfl 25 _ rfl _ rfl _ _ hB1 _ _ uPoly sPoly ?_))
      go_upto_region 6 with (fail)
      refine gen_region (ws := w) (w := _) (B := w.heap.size) (by kernel_rfl) (by kernel_rfl) (by kernel_rfl) (by kernel_rfl)
          (fun i => ([fun v _ => v = .int .i64 p, fun v _ => v = .agg (u8s 64 f), fun v w => IsRow w v (mkp 64 f), fun v _ => v = .agg (u8s 64 g), fun v w => IsRow w v (mkp 64 g), fun v w => ∃ v1 v2, v = .tuple #[v1, v2] ∧ IsRow w v1 (D1) ∧ IsRow w v2 (D2), fun v w => ∃ v1 v2, v = .tuple #[v1, v2] ∧ IsRow w v1 (D1) ∧ IsRow w v2 (D2), fun v w => IsRow w v (D1), fun v w => IsRow w v (D2), fun v w => IsRow w v (D1), fun v w => IsRow w v (D2)] : List (Value → World → Prop)).getD i (fun _ _ => True))
          (fun i => ([true, true, false, true, false, false, false, false, false, false, false] : List Bool).getD i true)
          0 (fun k => [].getD k 0) (fun k => [].getD k 0) (fun k => [].getD k 0) (fun k => [].getD k 0) (fun k => [].getD k 0) (fun k => [].getD k 0) (fun k => [].getD k (fun _ => 0)) (fun k => [].getD k (fun _ => 0)) (fun k => [].getD k 0) hb2 (Nat.le_refl _)
          (fun w' => Blk w' (w.heap.size) (u8s 64 f) 25 ∧ Blk w' (w.heap.size + 1) (u8s 64 g) 25 ∧ True) ⟨hA1.drew, hB1.drew, trivial⟩ (fun w1 w2 h hb => ⟨h.1.keep hb, h.2.1.keep hb, trivial⟩) ?_ ?_ ?_ ?_ ?_ ?_ ?_
      · exact fun k hk => absurd hk (by omega)
      · intro i v w1 w2 h hb
        rcases i with _|_|_|_|_|_|_|_|_|_|_|i
        · exact h
        · exact h
        · exact (show IsRow w1 v (mkp 64 f) from h).below hb
        · exact h
        · exact (show IsRow w1 v (mkp 64 g) from h).below hb
        · obtain ⟨v1, v2, e, h1, h2⟩ := h; exact ⟨v1, v2, e, h1.below hb, h2.below hb⟩
        · obtain ⟨v1, v2, e, h1, h2⟩ := h; exact ⟨v1, v2, e, h1.below hb, h2.below hb⟩
        · exact (show IsRow w1 v (D1) from h).below hb
        · exact (show IsRow w1 v (D2) from h).below hb
        · exact (show IsRow w1 v (D1) from h).below hb
        · exact (show IsRow w1 v (D2) from h).below hb
        · exact h
      · exact fun k hk => absurd hk (by omega)
      · exact fun k hk => absurd hk (by omega)
      · kernel_rfl
      · intro i o ho hz a w2 hBs hSx hBl hrd hpar
        rcases i with _|_|_|_|_|_|_|_|_|_|_|i
        · obtain rfl := Option.some.inj ho
          have e0 : a.eval (.tmp 0) = .int .i64 p := hpar 0 _ (by kernel_rfl) (by kernel_rfl)
          exact wpv_of (wp_move _ _ rfl e0) (fun _ _ => rfl)
        · obtain rfl := Option.some.inj ho
          exact wpv_of (wp_loadB 25 _ rfl _ (hpar 4 (.pointer (some ⟨w.heap.size, 0, none⟩)) (by kernel_rfl) (by kernel_rfl)) _ _ hSx.1 _ _ uPoly sPoly) (fun _ _ => rfl)
        · obtain rfl := Option.some.inj ho
          obtain ⟨_, e29⟩ : ∃ _w : World, a.eval (.tmp 29) = .agg (u8s 64 f) := (hrd 1 _ 29 rfl rfl (by kernel_rfl) (by kernel_rfl) (by decide)).1
          exact wpv_call 30 [.tmp 29] _ rfl [.agg (u8s 64 f)] (by simp only [List.map_cons, List.map_nil, e29]) Try.call30 (rowOf_any f w2 hfH.out.on)
        · obtain rfl := Option.some.inj ho
          exact wpv_of (wp_loadB 25 _ rfl _ (hpar 5 (.pointer (some ⟨w.heap.size + 1, 0, none⟩)) (by kernel_rfl) (by kernel_rfl)) _ _ hSx.2.1 _ _ uPoly sPoly) (fun _ _ => rfl)
        · obtain rfl := Option.some.inj ho
          obtain ⟨_, e31⟩ : ∃ _w : World, a.eval (.tmp 31) = .agg (u8s 64 g) := (hrd 3 _ 31 rfl rfl (by kernel_rfl) (by kernel_rfl) (by decide)).1
          exact wpv_call 30 [.tmp 31] _ rfl [.agg (u8s 64 g)] (by simp only [List.map_cons, List.map_nil, e31]) Try.call30 (rowOf_any g w2 hgH.out.on)
        · obtain rfl := Option.some.inj ho
          obtain ⟨_, e28⟩ : ∃ _w : World, a.eval (.tmp 28) = .int .i64 p := (hrd 0 _ 28 rfl rfl (by kernel_rfl) (by kernel_rfl) (by decide)).1
          have h30 : (fun v w => IsRow w v (mkp 64 f)) (a.eval (.tmp 30)) w2 := (hrd 2 _ 30 rfl rfl (by kernel_rfl) (by kernel_rfl) (by decide)).2 rfl
          generalize e30 : a.eval (.tmp 30) = v30 at h30
          have h32 : (fun v w => IsRow w v (mkp 64 g)) (a.eval (.tmp 32)) w2 := (hrd 4 _ 32 rfl rfl (by kernel_rfl) (by kernel_rfl) (by decide)).2 rfl
          generalize e32 : a.eval (.tmp 32) = v32 at h32
          exact wpv_call 34 [.tmp 28, .tmp 30, .tmp 32] _ rfl [.int .i64 p, v30, v32] (by simp only [List.map_cons, List.map_nil, e28, e30, e32]) Try.call34 ((divide_any _ _ _ _ p w2 hxH.out.pr h30 h32 hxH.out.po hyH.out.po hneH.out (by have := hxH.out.le; omega) (by have := hyH.out.le; omega)).mono fun _ _ ⟨v1, v2, h1, h2, h3, h4⟩ => ⟨_, h1, ⟨v1, v2, rfl, hDD.out.1 ▸ h2, hDD.out.2 ▸ h3⟩, h4⟩)
        · obtain rfl := Option.some.inj ho
          have h33 : (fun v w => ∃ v1 v2, v = .tuple #[v1, v2] ∧ IsRow w v1 (D1) ∧ IsRow w v2 (D2)) (a.eval (.tmp 33)) w2 := (hrd 5 _ 33 rfl rfl (by kernel_rfl) (by kernel_rfl) (by decide)).2 rfl
          generalize e33 : a.eval (.tmp 33) = v33 at h33
          exact wpv_of (wp_move _ _ rfl e33) (fun w' hb => by have h := h33; obtain ⟨v1, v2, e, h1, h2⟩ := h; exact ⟨v1, v2, e, h1.below hb, h2.below hb⟩)
        · obtain rfl := Option.some.inj ho
          have h27 : (fun v w => ∃ v1 v2, v = .tuple #[v1, v2] ∧ IsRow w v1 (D1) ∧ IsRow w v2 (D2)) (a.eval (.tmp 27)) w2 := (hrd 6 _ 27 rfl rfl (by kernel_rfl) (by kernel_rfl) (by decide)).2 rfl
          generalize e27 : a.eval (.tmp 27) = v27 at h27
          obtain ⟨q1, q2, eq, k1, k2⟩ := h27
          exact wpv_of (wp_extract _ 0 #[q1, q2] _ rfl (e27.trans eq) rfl) (fun w' hb => k1.below hb)
        · obtain rfl := Option.some.inj ho
          have h27 : (fun v w => ∃ v1 v2, v = .tuple #[v1, v2] ∧ IsRow w v1 (D1) ∧ IsRow w v2 (D2)) (a.eval (.tmp 27)) w2 := (hrd 6 _ 27 rfl rfl (by kernel_rfl) (by kernel_rfl) (by decide)).2 rfl
          generalize e27 : a.eval (.tmp 27) = v27 at h27
          obtain ⟨q1, q2, eq, k1, k2⟩ := h27
          exact wpv_of (wp_extract _ 1 #[q1, q2] _ rfl (e27.trans eq) rfl) (fun w' hb => k2.below hb)
        · obtain rfl := Option.some.inj ho
          have h34 : (fun v w => IsRow w v (D1)) (a.eval (.tmp 34)) w2 := (hrd 7 _ 34 rfl rfl (by kernel_rfl) (by kernel_rfl) (by decide)).2 rfl
          generalize e34 : a.eval (.tmp 34) = v34 at h34
          exact wpv_of (wp_assign _ _ rfl e34) (fun w' hb => h34.below hb)
        · obtain rfl := Option.some.inj ho
          have h35 : (fun v w => IsRow w v (D2)) (a.eval (.tmp 35)) w2 := (hrd 8 _ 35 rfl rfl (by kernel_rfl) (by kernel_rfl) (by decide)).2 rfl
          generalize e35 : a.eval (.tmp 35) = v35 at h35
          exact wpv_of (wp_assign _ _ rfl e35) (fun w' hb => h35.below hb)
        · simp at ho
      intro vals xE hBx hSx hS0 hcs hrs
      obtain ⟨hBl, hc0⟩ := hS0 rfl
      have e0 : vals 0 = .int .i64 p := hc0 0 (by simp)
      have e1 : vals 1 = .agg (u8s 64 f) := hc0 1 (by simp)
      have cE2 : (fun v w => IsRow w v (mkp 64 f)) (vals 2) xE := hc0 2 (by simp)
      generalize ev2 : vals 2 = uE2 at cE2
      have e3 : vals 3 = .agg (u8s 64 g) := hc0 3 (by simp)
      have cE4 : (fun v w => IsRow w v (mkp 64 g)) (vals 4) xE := hc0 4 (by simp)
      generalize ev4 : vals 4 = uE4 at cE4
      have cE5 : (fun v w => ∃ v1 v2, v = .tuple #[v1, v2] ∧ IsRow w v1 (D1) ∧ IsRow w v2 (D2)) (vals 5) xE := hc0 5 (by simp)
      generalize ev5 : vals 5 = uE5 at cE5
      have cE6 : (fun v w => ∃ v1 v2, v = .tuple #[v1, v2] ∧ IsRow w v1 (D1) ∧ IsRow w v2 (D2)) (vals 6) xE := hc0 6 (by simp)
      generalize ev6 : vals 6 = uE6 at cE6
      have cE7 : (fun v w => IsRow w v (D1)) (vals 7) xE := hc0 7 (by simp)
      generalize ev7 : vals 7 = uE7 at cE7
      have cE8 : (fun v w => IsRow w v (D2)) (vals 8) xE := hc0 8 (by simp)
      generalize ev8 : vals 8 = uE8 at cE8
      have cE9 : (fun v w => IsRow w v (D1)) (vals 9) xE := hc0 9 (by simp)
      generalize ev9 : vals 9 = uE9 at cE9
      have cE10 : (fun v w => IsRow w v (D2)) (vals 10) xE := hc0 10 (by simp)
      generalize ev10 : vals 10 = uE10 at cE10
      simp only [List.length_cons, List.length_nil, Nat.zero_add, Nat.reduceAdd, List.replicate, putAll, if_true, Act.put, List.setIfInBounds_toArray, List.set_cons_zero, List.set_cons_succ, e0, e1, ev2, e3, ev4, ev5, ev6, ev7, ev8, ev9, ev10]
      replace hZ1 := hZ1.keep hBl
      replace hY1 := hY1.keep hBl
      replace hA1 := hSx.1
      replace hB1 := hSx.2.1
      clear hcs hrs hS0 hSx e0 e1 ev2 e3 ev4 ev5 ev6 ev7 ev8 ev9 ev10 hc0
      clear hA1 hB1 hBl hb2
      have k1 := Lib.hid cE9
      have k2 := Lib.hid cE10
      clear cE2 cE4 cE5 cE6 cE7 cE8 cE9 cE10
      go_wp2_with fail
      refine (poly_any _ _ _ k1.out (fun i => hq1.out.by i) hq1.out.le).mono ?_
      rintro e w3 ⟨rfl, hb3⟩
      replace hZ1 := hZ1.keep hb3
      replace hY1 := hY1.keep hb3
      replace k2 := Lib.hid (k2.out.below hb3)
      replace hBx := below_step hBx hb3
      clear hb3
      go_wp2_with fail
      refine (poly_any _ _ _ k2.out (fun i => hq2.out.by i) hq2.out.le).mono ?_
      rintro e w4 ⟨rfl, hb3⟩
      replace hZ1 := hZ1.keep hb3
      replace hY1 := hY1.keep hb3
      replace hBx := below_step hBx hb3
      clear hb3
      go_wp2_with (first | (refine wpl_sto2 25 sPoly _ _ rfl rfl rfl _ rfl _ rfl _ hZ1 _ _ rfl rfl rfl _ rfl _ rfl _ hY1 (by omega) ?_; intro w5 hz5 hy5 _ hB5))
      exact bodyPost_ret (res_cct rfl rfl hz5 uPoly sPoly rfl hy5 uPoly sPoly rfl) rfl ⟨rfl, hB5 _ _ hBx (by omega) (by omega)⟩
    · go_wp2_with (first | (refine wpl_build_zero rfl 25 64 5 rfl _ uPoly sByte zPoly ?_) | (refine wpl_eql_arr rfl 25 _ _ _ rfl 64 .u8 g (fun _ => 0) 5 rfl rfl uPoly uByte sByte gPoly _ (mkp_zero_dec g hzH.out) ?_) | (refine wpl_load_arr rfl 25 _ rfl _ rfl _ _ hB1 _ _ uPoly sPoly ?_) | (refine wpl_sto2 25 sPoly _ _ rfl rfl rfl _ rfl _ rfl _ hZ1 _ _ rfl rfl rfl _ rfl _ rfl _ hY1 (by omega) ?_; intro w5 hz5 hy5 _ hB5))
      exact bodyPost_ret (res_cct rfl rfl hz5 uPoly sPoly rfl hy5 uPoly sPoly rfl) rfl ⟨rfl, hB5 _ _ hb2 (by omega) (by omega)⟩

end Go.Proofs.Ytddgbnkojdmekaa

/- Walks: greatest common divisors with their factors on both sides. -/
namespace Go.Proofs.Ytddgbnkojdmekaa
open Go.RowKit

theorem bzl_P64 {p : Int} : ∀ (n : Nat) {A B : Nat} {a b u x v y : List Int}, BzP p A B a b u x v y → P64 p (bzl p n a b u x v y).1 ∧ P64 p (bzl p n a b u x v y).2.1 ∧ P64 p (bzl p n a b u x v y).2.2
  | 0, _, _, _, _, _, _, _, _, h => ⟨h.a, h.u, h.v⟩
  | n + 1, A, B, a, b, u, x, v, y, h => by
    by_cases hb : b = []
    · subst hb; rw [bzl_stop]; exact ⟨h.a, h.u, h.v⟩
    · rw [bzl_go hb]
      exact bzl_P64 n (A := A) (B := B) ⟨h.s.step h.pr h.hA h.hB hb, h.pr, h.hA, h.hB⟩
theorem bez_P64 {p : Int} {xs ys : List Int} (hx : P64 p xs) (hy : P64 p ys) (hne : xs ≠ [] ∨ ys ≠ []) : P64 p (bez p xs ys).1 ∧ P64 p (bez p xs ys).2.1 ∧ P64 p (bez p xs ys).2.2 := by
  have h := bzl_P64 (ys.length + 1) (BzP.mk (BzS.start hx.pr hx.po hy.po hx.le hy.le hne) hx.pr hx.le hy.le)
  exact ⟨(P64.nil hx.pr).addp h.1 _, (P64.nil hx.pr).addp h.2.1 _, (P64.nil hx.pr).addp h.2.2 _⟩
theorem nil_iff {f : Nat → Int} {z : Bool} (h : decide ((mkp 64 f).length = 0) = z) : mkp 64 f = [] ↔ z = true := by
  rw [← h, decide_eq_true_iff, List.length_eq_zero_iff]

set_option maxRecDepth 20000 in
set_option maxHeartbeats 2000000 in
theorem l01Two_any (f g : Nat → Int) (p : Int) (w : World) (hf : By f) (hg : By g) (b : Bool) (hb : Good p [f, g] ↔ b = true) (z1 z2 : Bool) (h1 : decide ((mkp 64 f).length = 0) = z1) (h2 : decide ((mkp 64 g).length = 0) = z2) :
    Calls Try.prog 32 #[.int .i64 p, .agg (u8s 64 f), .agg (u8s 64 g)] w fun e w' => e = .returned (.int .i64 (if b then (if z1 && z2 then 5 else 0) else 1)) ∧ Below w.heap.size w w' := by
  have d1 : decide (((mkp 64 f).length : Int) - 1 < 0) = z1 := by rw [← h1]; apply decide_eq_decide.2; omega
  have d2 : decide (((mkp 64 g).length : Int) - 1 < 0) = z2 := by rw [← h2]; apply decide_eq_decide.2; omega
  have hg1 := Lib.hid (fun w => l01Deg_any f w fun i _ => hf i)
  have hg2 := Lib.hid (fun w => l01Deg_any g w fun i _ => hg i)
  have hfH := Lib.hid hf
  have hgH := Lib.hid hg
  have hbH := Lib.hid hb
  clear hf hg hb h1 h2
  generalize ((mkp 64 f).length : Int) - 1 = n1 at *
  generalize ((mkp 64 g).length : Int) - 1 = n2 at *
  obtain ⟨hb, hA, hB⟩ := boxes2 w (u8s 64 f) (u8s 64 g) 25 25
  go_enter Try.func32, Try.ntmps32
  go_wp2_with (first | (refine wpl_load_arr rfl 25 _ rfl _ rfl _ _ hA _ _ uPoly sPoly ?_) | (refine wpl_load_arr rfl 25 _ rfl _ rfl _ _ hB _ _ uPoly sPoly ?_) | (refine wpl_buildSlice_polys rfl 77 25 2 _ rfl Try.underlying77 sPoly zPoly [f, g] rfl (by decide) (by decide) rfl ?_))
  refine (l01Code_lit [f, g] 2 128 rfl rfl (by omega) p _ _ _ (Blk.newAt (by simp) _ _) (by2 hfH.out hgH.out) b hbH.out).mono ?_
  rintro e w1 ⟨rfl, hb1⟩
  replace hb := below_step hb (below_step (below_new _ _) hb1)
  replace hA := (hA.alloc _).keep hb1
  replace hB := (hB.alloc _).keep hb1
  clear hb1 hbH hfH hgH
  cases b
  · go_wp2_with fail
    go_ret
    exact ⟨rfl, hb⟩
  · go_wp2_with (first | (refine wpl_load_arr rfl 25 _ rfl _ rfl _ _ hA _ _ uPoly sPoly ?_) | (refine wpl_load_arr rfl 25 _ rfl _ rfl _ _ hB _ _ uPoly sPoly ?_))
    refine (hg1.out _).mono ?_
    rintro e w2 ⟨rfl, hn⟩
    replace hA := hA.keep hn
    replace hB := hB.keep hn
    replace hb := below_step hb hn
    clear hn
    cases z1
    · have hlt : ¬ n1 < 0 := of_decide_eq_false d1
      clear d1 d2
      go_wp2_with fail
      go_ret
      exact ⟨rfl, hb⟩
    · have hlt : n1 < 0 := of_decide_eq_true d1
      clear d1
      go_wp2_with (first | (refine wpl_load_arr rfl 25 _ rfl _ rfl _ _ hA _ _ uPoly sPoly ?_) | (refine wpl_load_arr rfl 25 _ rfl _ rfl _ _ hB _ _ uPoly sPoly ?_))
      refine (hg2.out _).mono ?_
      rintro e w3 ⟨rfl, hn⟩
      replace hA := hA.keep hn
      replace hB := hB.keep hn
      replace hb := below_step hb hn
      clear hn
      cases z2
      · have hlt2 : ¬ n2 < 0 := of_decide_eq_false d2
        clear d2
        go_wp2_with fail
        go_ret
        exact ⟨rfl, hb⟩
      · have hlt2 : n2 < 0 := of_decide_eq_true d2
        clear d2
        go_wp2_with fail
        go_ret
        exact ⟨rfl, hb⟩

set_option maxRecDepth 20000 in
set_option maxHeartbeats 2000000 in
theorem specBezoutOf_any (p : Int) (f : Nat → Int) (g : Nat → Int) (w : World) (hf : By f) (hg : By g) (b : Bool) (hb : Good p [f, g] ↔ b = true) (z1 z2 : Bool) (h1 : decide ((mkp 64 f).length = 0) = z1) (h2 : decide ((mkp 64 g).length = 0) = z2) (z : Bool) (hz : (z1 && z2) = z) :
    Calls Try.prog 7 #[.int .i64 p, .agg (u8s 64 f), .agg (u8s 64 g)] w fun e w' => e = .returned (.tuple #[.agg (u8s 64 (if b then (if z then (fun _ => 0) else cf (bez p (mkp 64 f) (mkp 64 g)).1) else fun _ => 0)), .agg (u8s 64 (if b then (if z then (fun _ => 0) else cf (bez p (mkp 64 f) (mkp 64 g)).2.1) else fun _ => 0)), .agg (u8s 64 (if b then (if z then (fun _ => 0) else cf (bez p (mkp 64 f) (mkp 64 g)).2.2) else fun _ => 0)), .int .i64 (if b then (if z then 5 else 0) else 1)]) ∧ Below w.heap.size w w' := by
  obtain ⟨D1, hD1⟩ : ∃ M, (bez p (mkp 64 f) (mkp 64 g)).1 = M := ⟨_, rfl⟩
  obtain ⟨D2, hD2⟩ : ∃ M, (bez p (mkp 64 f) (mkp 64 g)).2.1 = M := ⟨_, rfl⟩
  obtain ⟨D3, hD3⟩ : ∃ M, (bez p (mkp 64 f) (mkp 64 g)).2.2 = M := ⟨_, rfl⟩
  rw [hD1, hD2, hD3]
  have hDD := Lib.hid (And.intro hD1 (And.intro hD2 hD3))
  have h1H := Lib.hid h1
  have h2H := Lib.hid h2
  have hzH := Lib.hid hz
  clear hD1 hD2 hD3 h1 h2 hz
  have hTwo := fun w => l01Two_any f g p w hf hg b hb z1 z2 h1H.out h2H.out
  rw [hzH.out] at hTwo
  replace hTwo := Lib.hid hTwo
  have hfH := Lib.hid hf
  have hgH := Lib.hid hg
  have hbH := Lib.hid hb
  clear hf hg hb
  obtain ⟨w0, hw0, hb, hA, hB, hE, hF, hG⟩ := boxes5 w (u8s 64 f) (u8s 64 g) (u8s 64 fun _ => 0) (u8s 64 fun _ => 0) (u8s 64 fun _ => 0) 25 25 25 25 25
  have hw0H := Lib.hid hw0.symm
  clear hw0
  go_enter Try.func7, Try.ntmps7
  go_upto_region 1 with (first | (refine wpl_alloc_arr rfl 25 rfl _ zPoly ?_))
  rw [hw0H.out]
  clear hw0H
  go_wp2_with (first | (refine wpl_load_arr rfl 25 _ rfl _ rfl _ _ hA _ _ uPoly sPoly ?_) | (refine wpl_load_arr rfl 25 _ rfl _ rfl _ _ hB _ _ uPoly sPoly ?_))
  refine (hTwo.out _).mono ?_
  rintro e w1 ⟨rfl, hn⟩
  replace hA := hA.keep hn
  replace hB := hB.keep hn
  replace hE := hE.keep hn
  replace hF := hF.keep hn
  replace hG := hG.keep hn
  replace hb := below_step hb hn
  clear hn
  clear hTwo
  cases b
  · go_wp2_with (first | (refine wpl_build_zero rfl 25 64 5 rfl _ uPoly sByte zPoly ?_) | (refine wpl_sto3 25 sPoly _ _ rfl rfl rfl _ rfl _ rfl _ hE _ _ rfl rfl rfl _ rfl _ rfl _ hF _ _ rfl rfl rfl _ rfl _ rfl _ hG (by omega) (by omega) (by omega) ?_; intro w9 hz5 hy5 hx5 _ hB5))
    exact bodyPost_ret (res_ccct rfl rfl hz5 uPoly sPoly rfl hy5 uPoly sPoly rfl hx5 uPoly sPoly rfl) rfl ⟨rfl, hB5 _ _ hb (by omega) (by omega) (by omega)⟩
  · cases z
    · have hzz := hzH.out
      have hG := hbH.out.2 rfl
      have hxH := Lib.hid (hG.p64 (f := f) (by simp) hfH.out)
      have hyH := Lib.hid (hG.p64 (f := g) (by simp) hgH.out)
      have hneH := Lib.hid (show mkp 64 f ≠ [] ∨ mkp 64 g ≠ [] from by
        cases z1
        · left; exact fun h => by have := (nil_iff h1H.out).1 h; cases this
        · cases z2
          · right; exact fun h => by have := (nil_iff h2H.out).1 h; cases this
          · cases hzz)
      clear hG
      clear hzz
      have hdv : ∀ w, Calls Try.prog 33 #[.int .i64 p, .agg (u8s 64 f), .agg (u8s 64 g)] w fun e w' => e = .returned (.tuple #[.agg (u8s 64 (cf D1)), .agg (u8s 64 (cf D2)), .agg (u8s 64 (cf D3))]) ∧ Below w.heap.size w w' := fun w => by
        have := l01Bezout_any _ _ p w hxH.out hyH.out hneH.out
        rwa [hDD.out.1, hDD.out.2.1, hDD.out.2.2, ← u8s_mkp, ← u8s_mkp] at this
      have hdvH := Lib.hid hdv
      clear hdv
      go_wp2_with (first | (refine wpl_load_arr rfl 25 _ rfl _ rfl _ _ hA _ _ uPoly sPoly ?_) | (refine wpl_load_arr rfl 25 _ rfl _ rfl _ _ hB _ _ uPoly sPoly ?_))
      refine (hdvH.out _).mono ?_
      rintro e w3 ⟨rfl, hn⟩
      replace hE := hE.keep hn
      replace hF := hF.keep hn
      replace hG := hG.keep hn
      replace hb := below_step hb hn
      clear hn
      have hgl := hG.lt
      clear hA hB
      go_wp2_with (first | (refine wpl_new3 25 zPoly sPoly _ _ rfl rfl rfl rfl rfl _ _ rfl rfl rfl rfl rfl _ _ rfl rfl rfl rfl rfl rfl _ rfl rfl _ rfl rfl _ rfl ?_; intro w4 hn hN1 hN2 hN3; replace hE := hE.keep hn; replace hF := hF.keep hn; replace hG := hG.keep hn; replace hb := below_step hb hn; clear hn))
      go_upto_region 5 with (fail)
      refine gen_region (ws := w) (w := _) (B := w.heap.size) (by kernel_rfl) (by kernel_rfl) (by kernel_rfl) (by kernel_rfl)
          (fun i => ([fun v _ => v = .agg (u8s 64 (cf D1)), fun v _ => v = .agg (u8s 64 (cf D2)), fun v _ => v = .agg (u8s 64 (cf D3)), fun _ _ => True, fun _ _ => True, fun _ _ => True, fun v _ => v = .int .i64 0] : List (Value → World → Prop)).getD i (fun _ _ => True))
          (fun i => ([true, true, true, true, true, true, true] : List Bool).getD i true)
          3 (fun k => [3, 4, 5].getD k 0) (fun k => [0, 1, 2].getD k 0) (fun k => [6, 7, 8].getD k 0) (fun k => [32, 33, 34].getD k 0) (fun k => [w.heap.size + 1 + 1, w.heap.size + 1 + 1 + 1, w.heap.size + 1 + 1 + 1 + 1].getD k 0) (fun k => [64, 64, 64].getD k 0) (fun k => [(cf D1), (cf D2), (cf D3)].getD k (fun _ => 0)) (fun k => [(fun _ => 0), (fun _ => 0), (fun _ => 0)].getD k (fun _ => 0)) (fun k => [25, 25, 25].getD k 0) hb (Nat.le_refl _)
          (fun w' => Blk w' (w3.heap.size) (u8s 64 (cf D1)) 25 ∧ Blk w' (w3.heap.size + 1) (u8s 64 (cf D2)) 25 ∧ Blk w' (w3.heap.size + 1 + 1) (u8s 64 (cf D3)) 25 ∧ True) ⟨hN1.drew, hN2.drew, hN3.drew, trivial⟩ (fun w1 w2 h hb => ⟨h.1.keep hb, h.2.1.keep hb, h.2.2.1.keep hb, trivial⟩) ?_ ?_ ?_ ?_ ?_ ?_ ?_
      · intro k hk w1 cs h
        rcases k with _|_|_|k
        · exact ⟨h.1.setRow_other (by simp only [List.getD_cons_zero, List.getD_cons_succ] <;> omega), h.2.1.setRow_other (by simp only [List.getD_cons_zero, List.getD_cons_succ] <;> omega), h.2.2.1.setRow_other (by simp only [List.getD_cons_zero, List.getD_cons_succ] <;> omega), trivial⟩
        · exact ⟨h.1.setRow_other (by simp only [List.getD_cons_zero, List.getD_cons_succ] <;> omega), h.2.1.setRow_other (by simp only [List.getD_cons_zero, List.getD_cons_succ] <;> omega), h.2.2.1.setRow_other (by simp only [List.getD_cons_zero, List.getD_cons_succ] <;> omega), trivial⟩
        · exact ⟨h.1.setRow_other (by simp only [List.getD_cons_zero, List.getD_cons_succ] <;> omega), h.2.1.setRow_other (by simp only [List.getD_cons_zero, List.getD_cons_succ] <;> omega), h.2.2.1.setRow_other (by simp only [List.getD_cons_zero, List.getD_cons_succ] <;> omega), trivial⟩
        · omega
      · intro i v w1 w2 h hb
        rcases i with _|_|_|_|_|_|_|i
        · exact h
        · exact h
        · exact h
        · exact h
        · exact h
        · exact h
        · exact h
        · exact h
      · intro k hk
        rcases k with _|_|_|k
        · kernel_rfl
        · kernel_rfl
        · kernel_rfl
        · omega
      · intro k hk
        rcases k with _|_|_|k
        · refine ⟨?_, (by kernel_rfl), hE, fun v w' h => h, by decide, ?_⟩
          · simp only [List.getD_cons_zero, List.getD_cons_succ] <;> omega
          · intro k' hk' hne
            rcases k' with _|_|_|k'
            all_goals first | omega | exact absurd rfl hne | (refine ⟨?_, by decide⟩; simp only [List.getD_cons_zero, List.getD_cons_succ]; omega)
        · refine ⟨?_, (by kernel_rfl), hF, fun v w' h => h, by decide, ?_⟩
          · simp only [List.getD_cons_zero, List.getD_cons_succ] <;> omega
          · intro k' hk' hne
            rcases k' with _|_|_|k'
            all_goals first | omega | exact absurd rfl hne | (refine ⟨?_, by decide⟩; simp only [List.getD_cons_zero, List.getD_cons_succ]; omega)
        · refine ⟨?_, (by kernel_rfl), hG, fun v w' h => h, by decide, ?_⟩
          · simp only [List.getD_cons_zero, List.getD_cons_succ] <;> omega
          · intro k' hk' hne
            rcases k' with _|_|_|k'
            all_goals first | omega | exact absurd rfl hne | (refine ⟨?_, by decide⟩; simp only [List.getD_cons_zero, List.getD_cons_succ]; omega)
        · omega
      · kernel_rfl
      · intro i o ho hz a w2 hBs hSx hBl hrd hpar
        rcases i with _|_|_|_|_|_|_|i
        · obtain rfl := Option.some.inj ho
          exact wpv_of (wp_loadB 25 _ rfl _ (hpar 11 (.pointer (some ⟨w3.heap.size, 0, none⟩)) (by kernel_rfl) (by kernel_rfl)) _ _ hSx.1 _ _ uPoly sPoly) (fun _ _ => rfl)
        · obtain rfl := Option.some.inj ho
          exact wpv_of (wp_loadB 25 _ rfl _ (hpar 12 (.pointer (some ⟨w3.heap.size + 1, 0, none⟩)) (by kernel_rfl) (by kernel_rfl)) _ _ hSx.2.1 _ _ uPoly sPoly) (fun _ _ => rfl)
        · obtain rfl := Option.some.inj ho
          exact wpv_of (wp_loadB 25 _ rfl _ (hpar 13 (.pointer (some ⟨w3.heap.size + 1 + 1, 0, none⟩)) (by kernel_rfl) (by kernel_rfl)) _ _ hSx.2.2.1 _ _ uPoly sPoly) (fun _ _ => rfl)
        · exact absurd rfl (hz 0 (by decide))
        · exact absurd rfl (hz 1 (by decide))
        · exact absurd rfl (hz 2 (by decide))
        · obtain rfl := Option.some.inj ho
          exact wpv_of (wp_assign _ (.int .i64 0) rfl rfl) (fun _ _ => rfl)
        · simp at ho
      intro vals xE hBx hSx hS0 hcs hrs
      obtain ⟨_, e0⟩ : ∃ _w : World, vals 0 = .agg (u8s 64 (cf D1)) := hcs 0 (by simp) (by decide)
      obtain ⟨_, e1⟩ : ∃ _w : World, vals 1 = .agg (u8s 64 (cf D2)) := hcs 1 (by simp) (by decide)
      obtain ⟨_, e2⟩ : ∃ _w : World, vals 2 = .agg (u8s 64 (cf D3)) := hcs 2 (by simp) (by decide)
      obtain ⟨_, e6⟩ : ∃ _w : World, vals 6 = .int .i64 0 := hcs 6 (by simp) (by decide)
      have hsE0 : Blk xE (w.heap.size + 1 + 1) (u8s 64 (cf D1)) 25 := hrs 0 (by decide)
      have hsE1 : Blk xE (w.heap.size + 1 + 1 + 1) (u8s 64 (cf D2)) 25 := hrs 1 (by decide)
      have hsE2 : Blk xE (w.heap.size + 1 + 1 + 1 + 1) (u8s 64 (cf D3)) 25 := hrs 2 (by decide)
      simp only [List.length_cons, List.length_nil, Nat.zero_add, Nat.reduceAdd, List.replicate, putAll, if_true, Act.put, List.setIfInBounds_toArray, List.set_cons_zero, List.set_cons_succ, e0, e1, e2, e6]
      replace hN1 := hSx.1
      replace hN2 := hSx.2.1
      replace hN3 := hSx.2.2.1
      clear hcs hrs hS0 hSx e0 e1 e2 e6
      go_wp2_with fail
      exact bodyPost_ret (res_ccct rfl rfl hsE0 uPoly sPoly rfl hsE1 uPoly sPoly rfl hsE2 uPoly sPoly rfl) rfl ⟨rfl, hBx⟩
    · go_wp2_with (first | (refine wpl_build_zero rfl 25 64 5 rfl _ uPoly sByte zPoly ?_) | (refine wpl_sto3 25 sPoly _ _ rfl rfl rfl _ rfl _ rfl _ hE _ _ rfl rfl rfl _ rfl _ rfl _ hF _ _ rfl rfl rfl _ rfl _ rfl _ hG (by omega) (by omega) (by omega) ?_; intro w9 hz5 hy5 hx5 _ hB5))
      exact bodyPost_ret (res_ccct rfl rfl hz5 uPoly sPoly rfl hy5 uPoly sPoly rfl hx5 uPoly sPoly rfl) rfl ⟨rfl, hB5 _ _ hb (by omega) (by omega) (by omega)⟩

set_option maxRecDepth 20000 in
set_option maxHeartbeats 2000000 in
theorem implBezoutOf_any (p : Int) (f : Nat → Int) (g : Nat → Int) (w : World) (hf : By f) (hg : By g) (b : Bool) (hb : Good p [f, g] ↔ b = true) (z1 z2 : Bool) (h1 : decide ((mkp 64 f).length = 0) = z1) (h2 : decide ((mkp 64 g).length = 0) = z2) (z : Bool) (hz : (z1 && z2) = z) :
    Calls Try.prog 6 #[.int .i64 p, .agg (u8s 64 f), .agg (u8s 64 g)] w fun e w' => e = .returned (.tuple #[.agg (u8s 64 (if b then (if z then (fun _ => 0) else cf (bez p (mkp 64 f) (mkp 64 g)).1) else fun _ => 0)), .agg (u8s 64 (if b then (if z then (fun _ => 0) else cf (bez p (mkp 64 f) (mkp 64 g)).2.1) else fun _ => 0)), .agg (u8s 64 (if b then (if z then (fun _ => 0) else cf (bez p (mkp 64 f) (mkp 64 g)).2.2) else fun _ => 0)), .int .i64 (if b then (if z then 5 else 0) else 1)]) ∧ Below w.heap.size w w' := by
  obtain ⟨D1, hD1⟩ : ∃ M, (bez p (mkp 64 f) (mkp 64 g)).1 = M := ⟨_, rfl⟩
  obtain ⟨D2, hD2⟩ : ∃ M, (bez p (mkp 64 f) (mkp 64 g)).2.1 = M := ⟨_, rfl⟩
  obtain ⟨D3, hD3⟩ : ∃ M, (bez p (mkp 64 f) (mkp 64 g)).2.2 = M := ⟨_, rfl⟩
  rw [hD1, hD2, hD3]
  have hDD := Lib.hid (And.intro hD1 (And.intro hD2 hD3))
  have h1H := Lib.hid h1
  have h2H := Lib.hid h2
  have hzH := Lib.hid hz
  clear hD1 hD2 hD3 h1 h2 hz
  have hfH := Lib.hid hf
  have hgH := Lib.hid hg
  have hbH := Lib.hid hb
  clear hf hg hb
  obtain ⟨w0, hw0, hb, hA, hB, hE, hF, hG⟩ := boxes5 w (u8s 64 f) (u8s 64 g) (u8s 64 fun _ => 0) (u8s 64 fun _ => 0) (u8s 64 fun _ => 0) 25 25 25 25 25
  have hw0H := Lib.hid hw0.symm
  clear hw0
  go_enter Try.func6, Try.ntmps6
  go_upto_region 1 with (first | (refine wpl_alloc_arr rfl 25 rfl _ zPoly ?_))
  rw [hw0H.out]
  clear hw0H
  go_wp2_with (first | (refine wpl_load_arr rfl 25 _ rfl _ rfl _ _ hA _ _ uPoly sPoly ?_) | (refine wpl_load_arr rfl 25 _ rfl _ rfl _ _ hB _ _ uPoly sPoly ?_) | (refine wpl_buildSlice_polys rfl 77 25 2 _ rfl Try.underlying77 sPoly zPoly [f, g] rfl (by decide) (by decide) rfl ?_))
  refine (polysCode_lit [f, g] 2 128 rfl rfl (by omega) p _ _ _ (Blk.newAt (by simp) _ _) (by2 hfH.out hgH.out) b hbH.out).mono ?_
  rintro e w1 ⟨rfl, hb1⟩
  replace hb := below_step hb (below_step (below_new _ _) hb1)
  replace hA := (hA.alloc _).keep hb1
  replace hB := (hB.alloc _).keep hb1
  replace hE := (hE.alloc _).keep hb1
  replace hF := (hF.alloc _).keep hb1
  replace hG := (hG.alloc _).keep hb1
  clear hb1
  cases b
  · go_wp2_with (first | (refine wpl_build_zero rfl 25 64 5 rfl _ uPoly sByte zPoly ?_) | (refine wpl_sto3 25 sPoly _ _ rfl rfl rfl _ rfl _ rfl _ hE _ _ rfl rfl rfl _ rfl _ rfl _ hF _ _ rfl rfl rfl _ rfl _ rfl _ hG (by omega) (by omega) (by omega) ?_; intro w9 hz5 hy5 hx5 _ hB5))
    exact bodyPost_ret (res_ccct rfl rfl hz5 uPoly sPoly rfl hy5 uPoly sPoly rfl hx5 uPoly sPoly rfl) rfl ⟨rfl, hB5 _ _ hb (by omega) (by omega) (by omega)⟩
  · cases z
    · have hzz := hzH.out
      have hG := hbH.out.2 rfl
      have hxH := Lib.hid (hG.p64 (f := f) (by simp) hfH.out)
      have hyH := Lib.hid (hG.p64 (f := g) (by simp) hgH.out)
      have hneH := Lib.hid (show mkp 64 f ≠ [] ∨ mkp 64 g ≠ [] from by
        cases z1
        · left; exact fun h => by have := (nil_iff h1H.out).1 h; cases this
        · cases z2
          · right; exact fun h => by have := (nil_iff h2H.out).1 h; cases this
          · cases hzz)
      clear hG
      have hq := bez_P64 hxH.out hyH.out hneH.out
      rw [hDD.out.1, hDD.out.2.1, hDD.out.2.2] at hq
      have hqH := Lib.hid hq
      clear hzz hq
      have hbz : ∀ (va vb : Value) (w : World), IsRow w va (mkp 64 f) → IsRow w vb (mkp 64 g) → Calls Try.prog 29 #[.int .i64 p, va, vb] w fun e w' => ∃ v, e = .returned v ∧ (∃ v1 v2 v3, v = .tuple #[v1, v2, v3] ∧ IsRow w' v1 D1 ∧ IsRow w' v2 D2 ∧ IsRow w' v3 D3) ∧ Below w.heap.size w w' := fun va vb w ha hb => by
        have := bezout_any va vb _ _ p w hxH.out.pr ha hb hxH.out.po hyH.out.po hneH.out hxH.out.le hyH.out.le
        rw [hDD.out.1, hDD.out.2.1, hDD.out.2.2] at this
        exact this.mono fun _ _ ⟨v1, v2, v3, k1, k2, k3, k4, k5⟩ => ⟨_, k1, ⟨v1, v2, v3, rfl, k2, k3, k4⟩, k5⟩
      have hbzH := Lib.hid hbz
      clear hbz
      cases z1
      · go_upto_region 6 with ((with_reducible refine wpl_guard ?_); first | (refine wpl_build_zero (wanted_none rfl) 25 64 5 rfl _ uPoly sByte zPoly ?_) | (refine wpl_eql_arr (wanted_none rfl) 25 _ _ _ rfl 64 .u8 f (fun _ => 0) 5 rfl rfl uPoly uByte sByte gPoly _ (mkp_zero_dec f h1H.out) ?_) | (refine wpl_load_arr (wanted_none rfl) 25 _ rfl _ rfl _ _ hA _ _ uPoly sPoly ?_) | (refine wpl_load_arr (wanted_none rfl) 25 _ rfl _ rfl _ _ hB _ _ uPoly sPoly ?_))
        refine gen_region (ws := w) (w := _) (B := w.heap.size) (by kernel_rfl) (by kernel_rfl) (by kernel_rfl) (by kernel_rfl)
            (fun i => ([fun v _ => v = .int .i64 p, fun v _ => v = .agg (u8s 64 f), fun v w => IsRow w v (mkp 64 f), fun v _ => v = .agg (u8s 64 g), fun v w => IsRow w v (mkp 64 g), fun v w => ∃ v1 v2 v3, v = .tuple #[v1, v2, v3] ∧ IsRow w v1 (D1) ∧ IsRow w v2 (D2) ∧ IsRow w v3 (D3), fun v w => ∃ v1 v2 v3, v = .tuple #[v1, v2, v3] ∧ IsRow w v1 (D1) ∧ IsRow w v2 (D2) ∧ IsRow w v3 (D3), fun v w => IsRow w v (D1), fun v w => IsRow w v (D2), fun v w => IsRow w v (D3), fun v w => IsRow w v (D1), fun v w => IsRow w v (D2), fun v w => IsRow w v (D3)] : List (Value → World → Prop)).getD i (fun _ _ => True))
            (fun i => ([true, true, false, true, false, false, false, false, false, false, false, false, false] : List Bool).getD i true)
            0 (fun k => [].getD k 0) (fun k => [].getD k 0) (fun k => [].getD k 0) (fun k => [].getD k 0) (fun k => [].getD k 0) (fun k => [].getD k 0) (fun k => [].getD k (fun _ => 0)) (fun k => [].getD k (fun _ => 0)) (fun k => [].getD k 0) hb (Nat.le_refl _)
            (fun w' => Blk w' (w.heap.size) (u8s 64 f) 25 ∧ Blk w' (w.heap.size + 1) (u8s 64 g) 25 ∧ True) ⟨hA.drew, hB.drew, trivial⟩ (fun w1 w2 h hb => ⟨h.1.keep hb, h.2.1.keep hb, trivial⟩) ?_ ?_ ?_ ?_ ?_ ?_ ?_
        · exact fun k hk => absurd hk (by omega)
        · intro i v w1 w2 h hb
          rcases i with _|_|_|_|_|_|_|_|_|_|_|_|_|i
          · exact h
          · exact h
          · exact (show IsRow w1 v (mkp 64 f) from h).below hb
          · exact h
          · exact (show IsRow w1 v (mkp 64 g) from h).below hb
          · obtain ⟨v1, v2, v3, e, h1, h2, h3⟩ := h; exact ⟨v1, v2, v3, e, h1.below hb, h2.below hb, h3.below hb⟩
          · obtain ⟨v1, v2, v3, e, h1, h2, h3⟩ := h; exact ⟨v1, v2, v3, e, h1.below hb, h2.below hb, h3.below hb⟩
          · exact (show IsRow w1 v (D1) from h).below hb
          · exact (show IsRow w1 v (D2) from h).below hb
          · exact (show IsRow w1 v (D3) from h).below hb
          · exact (show IsRow w1 v (D1) from h).below hb
          · exact (show IsRow w1 v (D2) from h).below hb
          · exact (show IsRow w1 v (D3) from h).below hb
          · exact h
        · exact fun k hk => absurd hk (by omega)
        · exact fun k hk => absurd hk (by omega)
        · kernel_rfl
        · intro i o ho hz a w2 hBs hSx hBl hrd hpar
          rcases i with _|_|_|_|_|_|_|_|_|_|_|_|_|i
          · obtain rfl := Option.some.inj ho
            have e0 : a.eval (.tmp 0) = .int .i64 p := hpar 0 _ (by kernel_rfl) (by kernel_rfl)
            exact wpv_of (wp_move _ _ rfl e0) (fun _ _ => rfl)
          · obtain rfl := Option.some.inj ho
            exact wpv_of (wp_loadB 25 _ rfl _ (hpar 4 (.pointer (some ⟨w.heap.size, 0, none⟩)) (by kernel_rfl) (by kernel_rfl)) _ _ hSx.1 _ _ uPoly sPoly) (fun _ _ => rfl)
          · obtain rfl := Option.some.inj ho
            obtain ⟨_, e38⟩ : ∃ _w : World, a.eval (.tmp 38) = .agg (u8s 64 f) := (hrd 1 _ 38 rfl rfl (by kernel_rfl) (by kernel_rfl) (by decide)).1
            exact wpv_call 30 [.tmp 38] _ rfl [.agg (u8s 64 f)] (by simp only [List.map_cons, List.map_nil, e38]) Try.call30 (rowOf_any f w2 hfH.out.on)
          · obtain rfl := Option.some.inj ho
            exact wpv_of (wp_loadB 25 _ rfl _ (hpar 5 (.pointer (some ⟨w.heap.size + 1, 0, none⟩)) (by kernel_rfl) (by kernel_rfl)) _ _ hSx.2.1 _ _ uPoly sPoly) (fun _ _ => rfl)
          · obtain rfl := Option.some.inj ho
            obtain ⟨_, e40⟩ : ∃ _w : World, a.eval (.tmp 40) = .agg (u8s 64 g) := (hrd 3 _ 40 rfl rfl (by kernel_rfl) (by kernel_rfl) (by decide)).1
            exact wpv_call 30 [.tmp 40] _ rfl [.agg (u8s 64 g)] (by simp only [List.map_cons, List.map_nil, e40]) Try.call30 (rowOf_any g w2 hgH.out.on)
          · obtain rfl := Option.some.inj ho
            obtain ⟨_, e37⟩ : ∃ _w : World, a.eval (.tmp 37) = .int .i64 p := (hrd 0 _ 37 rfl rfl (by kernel_rfl) (by kernel_rfl) (by decide)).1
            have h39 : (fun v w => IsRow w v (mkp 64 f)) (a.eval (.tmp 39)) w2 := (hrd 2 _ 39 rfl rfl (by kernel_rfl) (by kernel_rfl) (by decide)).2 rfl
            generalize e39 : a.eval (.tmp 39) = v39 at h39
            have h41 : (fun v w => IsRow w v (mkp 64 g)) (a.eval (.tmp 41)) w2 := (hrd 4 _ 41 rfl rfl (by kernel_rfl) (by kernel_rfl) (by decide)).2 rfl
            generalize e41 : a.eval (.tmp 41) = v41 at h41
            exact wpv_call 29 [.tmp 37, .tmp 39, .tmp 41] _ rfl [.int .i64 p, v39, v41] (by simp only [List.map_cons, List.map_nil, e37, e39, e41]) Try.call29 (hbzH.out _ _ w2 h39 h41)
          · obtain rfl := Option.some.inj ho
            have h42 : (fun v w => ∃ v1 v2 v3, v = .tuple #[v1, v2, v3] ∧ IsRow w v1 (D1) ∧ IsRow w v2 (D2) ∧ IsRow w v3 (D3)) (a.eval (.tmp 42)) w2 := (hrd 5 _ 42 rfl rfl (by kernel_rfl) (by kernel_rfl) (by decide)).2 rfl
            generalize e42 : a.eval (.tmp 42) = v42 at h42
            exact wpv_of (wp_move _ _ rfl e42) (fun w' hb => by have h := h42; obtain ⟨v1, v2, v3, e, h1, h2, h3⟩ := h; exact ⟨v1, v2, v3, e, h1.below hb, h2.below hb, h3.below hb⟩)
          · obtain rfl := Option.some.inj ho
            have h36 : (fun v w => ∃ v1 v2 v3, v = .tuple #[v1, v2, v3] ∧ IsRow w v1 (D1) ∧ IsRow w v2 (D2) ∧ IsRow w v3 (D3)) (a.eval (.tmp 36)) w2 := (hrd 6 _ 36 rfl rfl (by kernel_rfl) (by kernel_rfl) (by decide)).2 rfl
            generalize e36 : a.eval (.tmp 36) = v36 at h36
            obtain ⟨q1, q2, q3, eq, k1, k2, k3⟩ := h36
            exact wpv_of (wp_extract _ 0 #[q1, q2, q3] _ rfl (e36.trans eq) rfl) (fun w' hb => k1.below hb)
          · obtain rfl := Option.some.inj ho
            have h36 : (fun v w => ∃ v1 v2 v3, v = .tuple #[v1, v2, v3] ∧ IsRow w v1 (D1) ∧ IsRow w v2 (D2) ∧ IsRow w v3 (D3)) (a.eval (.tmp 36)) w2 := (hrd 6 _ 36 rfl rfl (by kernel_rfl) (by kernel_rfl) (by decide)).2 rfl
            generalize e36 : a.eval (.tmp 36) = v36 at h36
            obtain ⟨q1, q2, q3, eq, k1, k2, k3⟩ := h36
            exact wpv_of (wp_extract _ 1 #[q1, q2, q3] _ rfl (e36.trans eq) rfl) (fun w' hb => k2.below hb)
          · obtain rfl := Option.some.inj ho
            have h36 : (fun v w => ∃ v1 v2 v3, v = .tuple #[v1, v2, v3] ∧ IsRow w v1 (D1) ∧ IsRow w v2 (D2) ∧ IsRow w v3 (D3)) (a.eval (.tmp 36)) w2 := (hrd 6 _ 36 rfl rfl (by kernel_rfl) (by kernel_rfl) (by decide)).2 rfl
            generalize e36 : a.eval (.tmp 36) = v36 at h36
            obtain ⟨q1, q2, q3, eq, k1, k2, k3⟩ := h36
            exact wpv_of (wp_extract _ 2 #[q1, q2, q3] _ rfl (e36.trans eq) rfl) (fun w' hb => k3.below hb)
          · obtain rfl := Option.some.inj ho
            have h43 : (fun v w => IsRow w v (D1)) (a.eval (.tmp 43)) w2 := (hrd 7 _ 43 rfl rfl (by kernel_rfl) (by kernel_rfl) (by decide)).2 rfl
            generalize e43 : a.eval (.tmp 43) = v43 at h43
            exact wpv_of (wp_assign _ _ rfl e43) (fun w' hb => h43.below hb)
          · obtain rfl := Option.some.inj ho
            have h44 : (fun v w => IsRow w v (D2)) (a.eval (.tmp 44)) w2 := (hrd 8 _ 44 rfl rfl (by kernel_rfl) (by kernel_rfl) (by decide)).2 rfl
            generalize e44 : a.eval (.tmp 44) = v44 at h44
            exact wpv_of (wp_assign _ _ rfl e44) (fun w' hb => h44.below hb)
          · obtain rfl := Option.some.inj ho
            have h45 : (fun v w => IsRow w v (D3)) (a.eval (.tmp 45)) w2 := (hrd 9 _ 45 rfl rfl (by kernel_rfl) (by kernel_rfl) (by decide)).2 rfl
            generalize e45 : a.eval (.tmp 45) = v45 at h45
            exact wpv_of (wp_assign _ _ rfl e45) (fun w' hb => h45.below hb)
          · simp at ho
        intro vals xE hBx hSx hS0 hcs hrs
        obtain ⟨hBl, hc0⟩ := hS0 rfl
        have e0 : vals 0 = .int .i64 p := hc0 0 (by simp)
        have e1 : vals 1 = .agg (u8s 64 f) := hc0 1 (by simp)
        have cE2 : (fun v w => IsRow w v (mkp 64 f)) (vals 2) xE := hc0 2 (by simp)
        generalize ev2 : vals 2 = uE2 at cE2
        have e3 : vals 3 = .agg (u8s 64 g) := hc0 3 (by simp)
        have cE4 : (fun v w => IsRow w v (mkp 64 g)) (vals 4) xE := hc0 4 (by simp)
        generalize ev4 : vals 4 = uE4 at cE4
        have cE5 : (fun v w => ∃ v1 v2 v3, v = .tuple #[v1, v2, v3] ∧ IsRow w v1 (D1) ∧ IsRow w v2 (D2) ∧ IsRow w v3 (D3)) (vals 5) xE := hc0 5 (by simp)
        generalize ev5 : vals 5 = uE5 at cE5
        have cE6 : (fun v w => ∃ v1 v2 v3, v = .tuple #[v1, v2, v3] ∧ IsRow w v1 (D1) ∧ IsRow w v2 (D2) ∧ IsRow w v3 (D3)) (vals 6) xE := hc0 6 (by simp)
        generalize ev6 : vals 6 = uE6 at cE6
        have cE7 : (fun v w => IsRow w v (D1)) (vals 7) xE := hc0 7 (by simp)
        generalize ev7 : vals 7 = uE7 at cE7
        have cE8 : (fun v w => IsRow w v (D2)) (vals 8) xE := hc0 8 (by simp)
        generalize ev8 : vals 8 = uE8 at cE8
        have cE9 : (fun v w => IsRow w v (D3)) (vals 9) xE := hc0 9 (by simp)
        generalize ev9 : vals 9 = uE9 at cE9
        have cE10 : (fun v w => IsRow w v (D1)) (vals 10) xE := hc0 10 (by simp)
        generalize ev10 : vals 10 = uE10 at cE10
        have cE11 : (fun v w => IsRow w v (D2)) (vals 11) xE := hc0 11 (by simp)
        generalize ev11 : vals 11 = uE11 at cE11
        have cE12 : (fun v w => IsRow w v (D3)) (vals 12) xE := hc0 12 (by simp)
        generalize ev12 : vals 12 = uE12 at cE12
        simp only [List.length_cons, List.length_nil, Nat.zero_add, Nat.reduceAdd, List.replicate, putAll, if_true, Act.put, List.setIfInBounds_toArray, List.set_cons_zero, List.set_cons_succ, e0, e1, ev2, e3, ev4, ev5, ev6, ev7, ev8, ev9, ev10, ev11, ev12]
        replace hE := hE.keep hBl
        replace hF := hF.keep hBl
        replace hG := hG.keep hBl
        replace hA := hSx.1
        replace hB := hSx.2.1
        clear hcs hrs hS0 hSx e0 e1 ev2 e3 ev4 ev5 ev6 ev7 ev8 ev9 ev10 ev11 ev12 hc0
        clear hA hB hBl hb
        have k1 := Lib.hid cE10
        have k2 := Lib.hid cE11
        have k3 := Lib.hid cE12
        clear cE2 cE4 cE5 cE6 cE7 cE8 cE9 cE10 cE11 cE12
        go_wp2_with fail
        refine (poly_any _ _ _ k1.out (fun i => P64.by hqH.out.1 i) (P64.le hqH.out.1)).mono ?_
        rintro e y1 ⟨rfl, hn⟩
        replace hE := hE.keep hn
        replace hF := hF.keep hn
        replace hG := hG.keep hn
        replace hBx := below_step hBx hn
        replace k2 := Lib.hid (k2.out.below hn)
        replace k3 := Lib.hid (k3.out.below hn)
        clear hn
        go_wp2_with fail
        refine (poly_any _ _ _ k2.out (fun i => P64.by hqH.out.2.1 i) (P64.le hqH.out.2.1)).mono ?_
        rintro e y2 ⟨rfl, hn⟩
        replace hE := hE.keep hn
        replace hF := hF.keep hn
        replace hG := hG.keep hn
        replace hBx := below_step hBx hn
        replace k3 := Lib.hid (k3.out.below hn)
        clear hn
        go_wp2_with fail
        refine (poly_any _ _ _ k3.out (fun i => P64.by hqH.out.2.2 i) (P64.le hqH.out.2.2)).mono ?_
        rintro e y3 ⟨rfl, hn⟩
        replace hE := hE.keep hn
        replace hF := hF.keep hn
        replace hG := hG.keep hn
        replace hBx := below_step hBx hn
        clear hn
        go_wp2_with (first | (refine wpl_sto3 25 sPoly _ _ rfl rfl rfl _ rfl _ rfl _ hE _ _ rfl rfl rfl _ rfl _ rfl _ hF _ _ rfl rfl rfl _ rfl _ rfl _ hG (by omega) (by omega) (by omega) ?_; intro w9 hz5 hy5 hx5 _ hB5))
        exact bodyPost_ret (res_ccct rfl rfl hz5 uPoly sPoly rfl hy5 uPoly sPoly rfl hx5 uPoly sPoly rfl) rfl ⟨rfl, hB5 _ _ hBx (by omega) (by omega) (by omega)⟩
      · cases z2
        · go_upto_region 6 with ((with_reducible refine wpl_guard ?_); first | (refine wpl_load_arr rfl 25 _ rfl _ rfl _ _ hA _ _ uPoly sPoly ?_) | (refine wpl_load_arr rfl 25 _ rfl _ rfl _ _ hB _ _ uPoly sPoly ?_) | (refine wpl_build_zero rfl 25 64 5 rfl _ uPoly sByte zPoly ?_) | (refine wpl_eql_arr rfl 25 _ _ _ rfl 64 .u8 f (fun _ => 0) 5 rfl rfl uPoly uByte sByte gPoly _ (mkp_zero_dec f h1H.out) ?_) | (refine wpl_eql_arr rfl 25 _ _ _ rfl 64 .u8 g (fun _ => 0) 5 rfl rfl uPoly uByte sByte gPoly _ (mkp_zero_dec g h2H.out) ?_))
          refine gen_region (ws := w) (w := _) (B := w.heap.size) (by kernel_rfl) (by kernel_rfl) (by kernel_rfl) (by kernel_rfl)
              (fun i => ([fun v _ => v = .int .i64 p, fun v _ => v = .agg (u8s 64 f), fun v w => IsRow w v (mkp 64 f), fun v _ => v = .agg (u8s 64 g), fun v w => IsRow w v (mkp 64 g), fun v w => ∃ v1 v2 v3, v = .tuple #[v1, v2, v3] ∧ IsRow w v1 (D1) ∧ IsRow w v2 (D2) ∧ IsRow w v3 (D3), fun v w => ∃ v1 v2 v3, v = .tuple #[v1, v2, v3] ∧ IsRow w v1 (D1) ∧ IsRow w v2 (D2) ∧ IsRow w v3 (D3), fun v w => IsRow w v (D1), fun v w => IsRow w v (D2), fun v w => IsRow w v (D3), fun v w => IsRow w v (D1), fun v w => IsRow w v (D2), fun v w => IsRow w v (D3)] : List (Value → World → Prop)).getD i (fun _ _ => True))
              (fun i => ([true, true, false, true, false, false, false, false, false, false, false, false, false] : List Bool).getD i true)
              0 (fun k => [].getD k 0) (fun k => [].getD k 0) (fun k => [].getD k 0) (fun k => [].getD k 0) (fun k => [].getD k 0) (fun k => [].getD k 0) (fun k => [].getD k (fun _ => 0)) (fun k => [].getD k (fun _ => 0)) (fun k => [].getD k 0) hb (Nat.le_refl _)
              (fun w' => Blk w' (w.heap.size) (u8s 64 f) 25 ∧ Blk w' (w.heap.size + 1) (u8s 64 g) 25 ∧ True) ⟨hA.drew, hB.drew, trivial⟩ (fun w1 w2 h hb => ⟨h.1.keep hb, h.2.1.keep hb, trivial⟩) ?_ ?_ ?_ ?_ ?_ ?_ ?_
          · exact fun k hk => absurd hk (by omega)
          · intro i v w1 w2 h hb
            rcases i with _|_|_|_|_|_|_|_|_|_|_|_|_|i
            · exact h
            · exact h
            · exact (show IsRow w1 v (mkp 64 f) from h).below hb
            · exact h
            · exact (show IsRow w1 v (mkp 64 g) from h).below hb
            · obtain ⟨v1, v2, v3, e, h1, h2, h3⟩ := h; exact ⟨v1, v2, v3, e, h1.below hb, h2.below hb, h3.below hb⟩
            · obtain ⟨v1, v2, v3, e, h1, h2, h3⟩ := h; exact ⟨v1, v2, v3, e, h1.below hb, h2.below hb, h3.below hb⟩
            · exact (show IsRow w1 v (D1) from h).below hb
            · exact (show IsRow w1 v (D2) from h).below hb
            · exact (show IsRow w1 v (D3) from h).below hb
            · exact (show IsRow w1 v (D1) from h).below hb
            · exact (show IsRow w1 v (D2) from h).below hb
            · exact (show IsRow w1 v (D3) from h).below hb
            · exact h
          · exact fun k hk => absurd hk (by omega)
          · exact fun k hk => absurd hk (by omega)
          · kernel_rfl
          · intro i o ho hz a w2 hBs hSx hBl hrd hpar
            rcases i with _|_|_|_|_|_|_|_|_|_|_|_|_|i
            · obtain rfl := Option.some.inj ho
              have e0 : a.eval (.tmp 0) = .int .i64 p := hpar 0 _ (by kernel_rfl) (by kernel_rfl)
              exact wpv_of (wp_move _ _ rfl e0) (fun _ _ => rfl)
            · obtain rfl := Option.some.inj ho
              exact wpv_of (wp_loadB 25 _ rfl _ (hpar 4 (.pointer (some ⟨w.heap.size, 0, none⟩)) (by kernel_rfl) (by kernel_rfl)) _ _ hSx.1 _ _ uPoly sPoly) (fun _ _ => rfl)
            · obtain rfl := Option.some.inj ho
              obtain ⟨_, e38⟩ : ∃ _w : World, a.eval (.tmp 38) = .agg (u8s 64 f) := (hrd 1 _ 38 rfl rfl (by kernel_rfl) (by kernel_rfl) (by decide)).1
              exact wpv_call 30 [.tmp 38] _ rfl [.agg (u8s 64 f)] (by simp only [List.map_cons, List.map_nil, e38]) Try.call30 (rowOf_any f w2 hfH.out.on)
            · obtain rfl := Option.some.inj ho
              exact wpv_of (wp_loadB 25 _ rfl _ (hpar 5 (.pointer (some ⟨w.heap.size + 1, 0, none⟩)) (by kernel_rfl) (by kernel_rfl)) _ _ hSx.2.1 _ _ uPoly sPoly) (fun _ _ => rfl)
            · obtain rfl := Option.some.inj ho
              obtain ⟨_, e40⟩ : ∃ _w : World, a.eval (.tmp 40) = .agg (u8s 64 g) := (hrd 3 _ 40 rfl rfl (by kernel_rfl) (by kernel_rfl) (by decide)).1
              exact wpv_call 30 [.tmp 40] _ rfl [.agg (u8s 64 g)] (by simp only [List.map_cons, List.map_nil, e40]) Try.call30 (rowOf_any g w2 hgH.out.on)
            · obtain rfl := Option.some.inj ho
              obtain ⟨_, e37⟩ : ∃ _w : World, a.eval (.tmp 37) = .int .i64 p := (hrd 0 _ 37 rfl rfl (by kernel_rfl) (by kernel_rfl) (by decide)).1
              have h39 : (fun v w => IsRow w v (mkp 64 f)) (a.eval (.tmp 39)) w2 := (hrd 2 _ 39 rfl rfl (by kernel_rfl) (by kernel_rfl) (by decide)).2 rfl
              generalize e39 : a.eval (.tmp 39) = v39 at h39
              have h41 : (fun v w => IsRow w v (mkp 64 g)) (a.eval (.tmp 41)) w2 := (hrd 4 _ 41 rfl rfl (by kernel_rfl) (by kernel_rfl) (by decide)).2 rfl
              generalize e41 : a.eval (.tmp 41) = v41 at h41
              exact wpv_call 29 [.tmp 37, .tmp 39, .tmp 41] _ rfl [.int .i64 p, v39, v41] (by simp only [List.map_cons, List.map_nil, e37, e39, e41]) Try.call29 (hbzH.out _ _ w2 h39 h41)
            · obtain rfl := Option.some.inj ho
              have h42 : (fun v w => ∃ v1 v2 v3, v = .tuple #[v1, v2, v3] ∧ IsRow w v1 (D1) ∧ IsRow w v2 (D2) ∧ IsRow w v3 (D3)) (a.eval (.tmp 42)) w2 := (hrd 5 _ 42 rfl rfl (by kernel_rfl) (by kernel_rfl) (by decide)).2 rfl
              generalize e42 : a.eval (.tmp 42) = v42 at h42
              exact wpv_of (wp_move _ _ rfl e42) (fun w' hb => by have h := h42; obtain ⟨v1, v2, v3, e, h1, h2, h3⟩ := h; exact ⟨v1, v2, v3, e, h1.below hb, h2.below hb, h3.below hb⟩)
            · obtain rfl := Option.some.inj ho
              have h36 : (fun v w => ∃ v1 v2 v3, v = .tuple #[v1, v2, v3] ∧ IsRow w v1 (D1) ∧ IsRow w v2 (D2) ∧ IsRow w v3 (D3)) (a.eval (.tmp 36)) w2 := (hrd 6 _ 36 rfl rfl (by kernel_rfl) (by kernel_rfl) (by decide)).2 rfl
              generalize e36 : a.eval (.tmp 36) = v36 at h36
              obtain ⟨q1, q2, q3, eq, k1, k2, k3⟩ := h36
              exact wpv_of (wp_extract _ 0 #[q1, q2, q3] _ rfl (e36.trans eq) rfl) (fun w' hb => k1.below hb)
            · obtain rfl := Option.some.inj ho
              have h36 : (fun v w => ∃ v1 v2 v3, v = .tuple #[v1, v2, v3] ∧ IsRow w v1 (D1) ∧ IsRow w v2 (D2) ∧ IsRow w v3 (D3)) (a.eval (.tmp 36)) w2 := (hrd 6 _ 36 rfl rfl (by kernel_rfl) (by kernel_rfl) (by decide)).2 rfl
              generalize e36 : a.eval (.tmp 36) = v36 at h36
              obtain ⟨q1, q2, q3, eq, k1, k2, k3⟩ := h36
              exact wpv_of (wp_extract _ 1 #[q1, q2, q3] _ rfl (e36.trans eq) rfl) (fun w' hb => k2.below hb)
            · obtain rfl := Option.some.inj ho
              have h36 : (fun v w => ∃ v1 v2 v3, v = .tuple #[v1, v2, v3] ∧ IsRow w v1 (D1) ∧ IsRow w v2 (D2) ∧ IsRow w v3 (D3)) (a.eval (.tmp 36)) w2 := (hrd 6 _ 36 rfl rfl (by kernel_rfl) (by kernel_rfl) (by decide)).2 rfl
              generalize e36 : a.eval (.tmp 36) = v36 at h36
              obtain ⟨q1, q2, q3, eq, k1, k2, k3⟩ := h36
              exact wpv_of (wp_extract _ 2 #[q1, q2, q3] _ rfl (e36.trans eq) rfl) (fun w' hb => k3.below hb)
            · obtain rfl := Option.some.inj ho
              have h43 : (fun v w => IsRow w v (D1)) (a.eval (.tmp 43)) w2 := (hrd 7 _ 43 rfl rfl (by kernel_rfl) (by kernel_rfl) (by decide)).2 rfl
              generalize e43 : a.eval (.tmp 43) = v43 at h43
              exact wpv_of (wp_assign _ _ rfl e43) (fun w' hb => h43.below hb)
            · obtain rfl := Option.some.inj ho
              have h44 : (fun v w => IsRow w v (D2)) (a.eval (.tmp 44)) w2 := (hrd 8 _ 44 rfl rfl (by kernel_rfl) (by kernel_rfl) (by decide)).2 rfl
              generalize e44 : a.eval (.tmp 44) = v44 at h44
              exact wpv_of (wp_assign _ _ rfl e44) (fun w' hb => h44.below hb)
            · obtain rfl := Option.some.inj ho
              have h45 : (fun v w => IsRow w v (D3)) (a.eval (.tmp 45)) w2 := (hrd 9 _ 45 rfl rfl (by kernel_rfl) (by kernel_rfl) (by decide)).2 rfl
              generalize e45 : a.eval (.tmp 45) = v45 at h45
              exact wpv_of (wp_assign _ _ rfl e45) (fun w' hb => h45.below hb)
            · simp at ho
          intro vals xE hBx hSx hS0 hcs hrs
          obtain ⟨hBl, hc0⟩ := hS0 rfl
          have e0 : vals 0 = .int .i64 p := hc0 0 (by simp)
          have e1 : vals 1 = .agg (u8s 64 f) := hc0 1 (by simp)
          have cE2 : (fun v w => IsRow w v (mkp 64 f)) (vals 2) xE := hc0 2 (by simp)
          generalize ev2 : vals 2 = uE2 at cE2
          have e3 : vals 3 = .agg (u8s 64 g) := hc0 3 (by simp)
          have cE4 : (fun v w => IsRow w v (mkp 64 g)) (vals 4) xE := hc0 4 (by simp)
          generalize ev4 : vals 4 = uE4 at cE4
          have cE5 : (fun v w => ∃ v1 v2 v3, v = .tuple #[v1, v2, v3] ∧ IsRow w v1 (D1) ∧ IsRow w v2 (D2) ∧ IsRow w v3 (D3)) (vals 5) xE := hc0 5 (by simp)
          generalize ev5 : vals 5 = uE5 at cE5
          have cE6 : (fun v w => ∃ v1 v2 v3, v = .tuple #[v1, v2, v3] ∧ IsRow w v1 (D1) ∧ IsRow w v2 (D2) ∧ IsRow w v3 (D3)) (vals 6) xE := hc0 6 (by simp)
          generalize ev6 : vals 6 = uE6 at cE6
          have cE7 : (fun v w => IsRow w v (D1)) (vals 7) xE := hc0 7 (by simp)
          generalize ev7 : vals 7 = uE7 at cE7
          have cE8 : (fun v w => IsRow w v (D2)) (vals 8) xE := hc0 8 (by simp)
          generalize ev8 : vals 8 = uE8 at cE8
          have cE9 : (fun v w => IsRow w v (D3)) (vals 9) xE := hc0 9 (by simp)
          generalize ev9 : vals 9 = uE9 at cE9
          have cE10 : (fun v w => IsRow w v (D1)) (vals 10) xE := hc0 10 (by simp)
          generalize ev10 : vals 10 = uE10 at cE10
          have cE11 : (fun v w => IsRow w v (D2)) (vals 11) xE := hc0 11 (by simp)
          generalize ev11 : vals 11 = uE11 at cE11
          have cE12 : (fun v w => IsRow w v (D3)) (vals 12) xE := hc0 12 (by simp)
          generalize ev12 : vals 12 = uE12 at cE12
          simp only [List.length_cons, List.length_nil, Nat.zero_add, Nat.reduceAdd, List.replicate, putAll, if_true, Act.put, List.setIfInBounds_toArray, List.set_cons_zero, List.set_cons_succ, e0, e1, ev2, e3, ev4, ev5, ev6, ev7, ev8, ev9, ev10, ev11, ev12]
          replace hE := hE.keep hBl
          replace hF := hF.keep hBl
          replace hG := hG.keep hBl
          replace hA := hSx.1
          replace hB := hSx.2.1
          clear hcs hrs hS0 hSx e0 e1 ev2 e3 ev4 ev5 ev6 ev7 ev8 ev9 ev10 ev11 ev12 hc0
          clear hA hB hBl hb
          have k1 := Lib.hid cE10
          have k2 := Lib.hid cE11
          have k3 := Lib.hid cE12
          clear cE2 cE4 cE5 cE6 cE7 cE8 cE9 cE10 cE11 cE12
          go_wp2_with fail
          refine (poly_any _ _ _ k1.out (fun i => P64.by hqH.out.1 i) (P64.le hqH.out.1)).mono ?_
          rintro e y1 ⟨rfl, hn⟩
          replace hE := hE.keep hn
          replace hF := hF.keep hn
          replace hG := hG.keep hn
          replace hBx := below_step hBx hn
          replace k2 := Lib.hid (k2.out.below hn)
          replace k3 := Lib.hid (k3.out.below hn)
          clear hn
          go_wp2_with fail
          refine (poly_any _ _ _ k2.out (fun i => P64.by hqH.out.2.1 i) (P64.le hqH.out.2.1)).mono ?_
          rintro e y2 ⟨rfl, hn⟩
          replace hE := hE.keep hn
          replace hF := hF.keep hn
          replace hG := hG.keep hn
          replace hBx := below_step hBx hn
          replace k3 := Lib.hid (k3.out.below hn)
          clear hn
          go_wp2_with fail
          refine (poly_any _ _ _ k3.out (fun i => P64.by hqH.out.2.2 i) (P64.le hqH.out.2.2)).mono ?_
          rintro e y3 ⟨rfl, hn⟩
          replace hE := hE.keep hn
          replace hF := hF.keep hn
          replace hG := hG.keep hn
          replace hBx := below_step hBx hn
          clear hn
          go_wp2_with (first | (refine wpl_sto3 25 sPoly _ _ rfl rfl rfl _ rfl _ rfl _ hE _ _ rfl rfl rfl _ rfl _ rfl _ hF _ _ rfl rfl rfl _ rfl _ rfl _ hG (by omega) (by omega) (by omega) ?_; intro w9 hz5 hy5 hx5 _ hB5))
          exact bodyPost_ret (res_ccct rfl rfl hz5 uPoly sPoly rfl hy5 uPoly sPoly rfl hx5 uPoly sPoly rfl) rfl ⟨rfl, hB5 _ _ hBx (by omega) (by omega) (by omega)⟩
        · cases hzH.out
    · obtain ⟨rfl, rfl⟩ : z1 = true ∧ z2 = true := by have hzz := hzH.out; cases z1 <;> cases z2 <;> first | exact ⟨rfl, rfl⟩ | cases hzz
      go_wp2_with ((with_reducible refine wpl_guard ?_); first | (refine wpl_load_arr rfl 25 _ rfl _ rfl _ _ hA _ _ uPoly sPoly ?_) | (refine wpl_load_arr rfl 25 _ rfl _ rfl _ _ hB _ _ uPoly sPoly ?_) | (refine wpl_build_zero rfl 25 64 5 rfl _ uPoly sByte zPoly ?_) | (refine wpl_eql_arr rfl 25 _ _ _ rfl 64 .u8 f (fun _ => 0) 5 rfl rfl uPoly uByte sByte gPoly _ (mkp_zero_dec f h1H.out) ?_) | (refine wpl_eql_arr rfl 25 _ _ _ rfl 64 .u8 g (fun _ => 0) 5 rfl rfl uPoly uByte sByte gPoly _ (mkp_zero_dec g h2H.out) ?_) | (refine wpl_sto3 25 sPoly _ _ rfl rfl rfl _ rfl _ rfl _ hE _ _ rfl rfl rfl _ rfl _ rfl _ hF _ _ rfl rfl rfl _ rfl _ rfl _ hG (by omega) (by omega) (by omega) ?_; intro w9 hz5 hy5 hx5 _ hB5))
      exact bodyPost_ret (res_ccct rfl rfl hz5 uPoly sPoly rfl hy5 uPoly sPoly rfl hx5 uPoly sPoly rfl) rfl ⟨rfl, hB5 _ _ hb (by omega) (by omega) (by omega)⟩
theorem BezoutOf_pair (p : Int) (f : Nat → Int) (g : Nat → Int) (_ : (Lit.int .i64 p).wf = true) (hf : By f) (hg : By g) : ∃ (r0 : (Nat → Int)) (r1 : (Nat → Int)) (r2 : (Nat → Int)) (r3 : Int),
    (∀ w, Calls Try.prog 7 #[.int .i64 p, .agg (u8s 64 f), .agg (u8s 64 g)] w fun e w' => e = .returned (.tuple #[.agg (u8s 64 r0), .agg (u8s 64 r1), .agg (u8s 64 r2), .int .i64 r3]) ∧ Below w.heap.size w w') ∧
    (∀ w, Calls Try.prog 6 #[.int .i64 p, .agg (u8s 64 f), .agg (u8s 64 g)] w fun e w' => e = .returned (.tuple #[.agg (u8s 64 r0), .agg (u8s 64 r1), .agg (u8s 64 r2), .int .i64 r3]) ∧ Below w.heap.size w w') := by
  obtain ⟨b, hb⟩ := dec_true (Good p [f, g])
  exact ⟨_, _, _, _, fun w => specBezoutOf_any p f g w hf hg b hb _ _ rfl rfl _ rfl, fun w => implBezoutOf_any p f g w hf hg b hb _ _ rfl rfl _ rfl⟩
end Go.Proofs.Ytddgbnkojdmekaa

/- Walks: greatest common divisors on both sides. -/
namespace Go.Proofs.Ytddgbnkojdmekaa
open Go.RowKit
/-- The greatest common divisor, 0 of two zeros. -/
def gcdp (p : Int) (xs ys : List Int) : List Int := if xs = [] ∧ ys = [] then [] else (bez p xs ys).1
set_option maxRecDepth 20000 in
set_option maxHeartbeats 2000000 in
theorem l01Gcd_any (xs ys : List Int) (p : Int) (w : World) (hx : P64 p xs) (hy : P64 p ys) :
    Calls Try.prog 48 #[.int .i64 p, .agg (u8s 64 (cf xs)), .agg (u8s 64 (cf ys))] w fun e w' => e = .returned (.agg (u8s 64 (cf (gcdp p xs ys)))) ∧ Below w.heap.size w w' := by
  have hg1 := Lib.hid (fun w => l01Deg_list p xs w hx)
  have hg2 := Lib.hid (fun w => l01Deg_list p ys w hy)
  have hbzH := Lib.hid (fun (h : ¬ (xs = [] ∧ ys = [])) w => l01Bezout_any xs ys p w hx hy (by
    by_cases h1 : xs = []
    · right; exact fun h2 => h ⟨h1, h2⟩
    · left; exact h1))
  obtain ⟨n1, hn1⟩ : ∃ n, (xs.length : Int) - 1 = n := ⟨_, rfl⟩
  obtain ⟨n2, hn2⟩ : ∃ n, (ys.length : Int) - 1 = n := ⟨_, rfl⟩
  rw [hn1] at hg1
  rw [hn2] at hg2
  have hn1H := Lib.hid hn1
  have hn2H := Lib.hid hn2
  clear hn1 hn2 hx hy
  obtain ⟨hb, hA, hB, hE⟩ := boxes3 w (u8s 64 (cf xs)) (u8s 64 (cf ys)) (u8s 64 fun _ => 0) 25 25 25
  by_cases h0 : n1 < 0 ∧ n2 < 0
  · obtain ⟨h1, h2⟩ := h0
    have hgc : gcdp p xs ys = [] := by
      unfold gcdp; rw [if_pos]
      exact ⟨List.length_eq_zero_iff.1 (by have := hn1H.out; omega), List.length_eq_zero_iff.1 (by have := hn2H.out; omega)⟩
    have hgH := Lib.hid hgc
    clear hgc
    go_enter Try.func48, Try.ntmps48
    go_wp2_with (first | (refine wpl_alloc_arr rfl 25 rfl _ zPoly ?_) | (refine wpl_load_arr rfl 25 _ rfl _ rfl _ _ hA _ _ uPoly sPoly ?_) | (refine wpl_load_arr rfl 25 _ rfl _ rfl _ _ hB _ _ uPoly sPoly ?_))
    refine (hg1.out _).mono ?_
    rintro e w1 ⟨rfl, hn⟩
    replace hA := hA.keep hn
    replace hB := hB.keep hn
    replace hE := hE.keep hn
    replace hb := below_step hb hn
    clear hn
    go_wp2_with (first | (refine wpl_load_arr rfl 25 _ rfl _ rfl _ _ hA _ _ uPoly sPoly ?_) | (refine wpl_load_arr rfl 25 _ rfl _ rfl _ _ hB _ _ uPoly sPoly ?_))
    refine (hg2.out _).mono ?_
    rintro e w2 ⟨rfl, hn⟩
    replace hA := hA.keep hn
    replace hB := hB.keep hn
    replace hE := hE.keep hn
    replace hb := below_step hb hn
    clear hn
    go_wp2_with (first | (refine wpl_build_zero rfl 25 64 5 rfl _ uPoly sByte zPoly ?_) | (refine wpl_store_arr rfl 25 _ _ rfl _ rfl _ rfl _ _ hE sPoly rfl (u8s_oneCell _ _) ?_))
    exact bodyPost_ret (res_c rfl rfl (hE.setRow_same (cs := u8s 64 fun _ => 0)) uPoly sPoly) rfl ⟨by rw [hgH.out, cf_void], below_setRow hb (by omega) _⟩
  · have hgc : gcdp p xs ys = (bez p xs ys).1 := by
      unfold gcdp; rw [if_neg]
      rintro ⟨e1, e2⟩
      exact h0 ⟨by have := hn1H.out; rw [e1] at this; simp at this; omega, by have := hn2H.out; rw [e2] at this; simp at this; omega⟩
    have hbz := hbzH.out (by
      rintro ⟨e1, e2⟩
      exact h0 ⟨by have := hn1H.out; rw [e1] at this; simp at this; omega, by have := hn2H.out; rw [e2] at this; simp at this; omega⟩)
    rw [hgc]
    obtain ⟨D1, hD1⟩ : ∃ M, (bez p xs ys).1 = M := ⟨_, rfl⟩
    obtain ⟨D2, hD2⟩ : ∃ M, (bez p xs ys).2.1 = M := ⟨_, rfl⟩
    obtain ⟨D3, hD3⟩ : ∃ M, (bez p xs ys).2.2 = M := ⟨_, rfl⟩
    rw [hD1]
    rw [hD1, hD2, hD3] at hbz
    have hbH := Lib.hid hbz
    clear hbz hD1 hD2 hD3 hgc hbzH
    by_cases h1 : n1 < 0
    · have h2 : ¬ n2 < 0 := fun h => h0 ⟨h1, h⟩
      clear h0
      go_enter Try.func48, Try.ntmps48
      go_wp2_with (first | (refine wpl_alloc_arr rfl 25 rfl _ zPoly ?_) | (refine wpl_load_arr rfl 25 _ rfl _ rfl _ _ hA _ _ uPoly sPoly ?_) | (refine wpl_load_arr rfl 25 _ rfl _ rfl _ _ hB _ _ uPoly sPoly ?_))
      refine (hg1.out _).mono ?_
      rintro e w1 ⟨rfl, hn⟩
      replace hA := hA.keep hn
      replace hB := hB.keep hn
      replace hE := hE.keep hn
      replace hb := below_step hb hn
      clear hn
      go_wp2_with (first | (refine wpl_load_arr rfl 25 _ rfl _ rfl _ _ hA _ _ uPoly sPoly ?_) | (refine wpl_load_arr rfl 25 _ rfl _ rfl _ _ hB _ _ uPoly sPoly ?_))
      refine (hg2.out _).mono ?_
      rintro e w2 ⟨rfl, hn⟩
      replace hA := hA.keep hn
      replace hB := hB.keep hn
      replace hE := hE.keep hn
      replace hb := below_step hb hn
      clear hn
      go_upto_region 3 with (fail)
      go_wp2_with ((with_reducible refine wpl_guard ?_); first | (refine wpl_load_arr (wanted_none rfl) 25 _ rfl _ rfl _ _ hA _ _ uPoly sPoly ?_) | (refine wpl_load_arr (wanted_none rfl) 25 _ rfl _ rfl _ _ hB _ _ uPoly sPoly ?_))
      refine (hbH.out _).mono ?_
      rintro e w3 ⟨rfl, hn⟩
      replace hA := hA.keep hn
      replace hB := hB.keep hn
      replace hE := hE.keep hn
      replace hb := below_step hb hn
      clear hn
      have hel := hE.lt
      clear hA hB
      go_upto_region 4 with ((with_reducible refine wpl_guard ?_); first | (refine wpl_new3 25 zPoly sPoly _ _ rfl rfl rfl rfl rfl _ _ rfl rfl rfl rfl rfl _ _ rfl rfl rfl rfl rfl rfl _ rfl rfl _ rfl rfl _ rfl ?_; intro w4 hn hN1 hN2 hN3; replace hE := hE.keep hn; replace hb := below_step hb hn; clear hn))
      go_wp2_with ((with_reducible refine wpl_guard ?_); first | (refine wpl_load_arr rfl 25 _ rfl _ rfl _ _ hN1 _ _ uPoly sPoly ?_) | (refine wpl_store_arr rfl 25 _ _ rfl _ rfl _ rfl _ _ hE sPoly (by simp only [u8s_size]) (u8s_oneCell _ _) ?_))
      exact bodyPost_ret (res_c rfl rfl (hE.setRow_same (cs := u8s 64 (cf D1))) uPoly sPoly) rfl ⟨rfl, below_setRow hb (by omega) _⟩
    · clear h0
      go_enter Try.func48, Try.ntmps48
      go_wp2_with (first | (refine wpl_alloc_arr rfl 25 rfl _ zPoly ?_) | (refine wpl_load_arr rfl 25 _ rfl _ rfl _ _ hA _ _ uPoly sPoly ?_) | (refine wpl_load_arr rfl 25 _ rfl _ rfl _ _ hB _ _ uPoly sPoly ?_))
      refine (hg1.out _).mono ?_
      rintro e w1 ⟨rfl, hn⟩
      replace hA := hA.keep hn
      replace hB := hB.keep hn
      replace hE := hE.keep hn
      replace hb := below_step hb hn
      clear hn
      go_upto_region 3 with (fail)
      go_wp2_with ((with_reducible refine wpl_guard ?_); first | (refine wpl_load_arr (wanted_none rfl) 25 _ rfl _ rfl _ _ hA _ _ uPoly sPoly ?_) | (refine wpl_load_arr (wanted_none rfl) 25 _ rfl _ rfl _ _ hB _ _ uPoly sPoly ?_))
      refine (hbH.out _).mono ?_
      rintro e w3 ⟨rfl, hn⟩
      replace hA := hA.keep hn
      replace hB := hB.keep hn
      replace hE := hE.keep hn
      replace hb := below_step hb hn
      clear hn
      have hel := hE.lt
      clear hA hB
      go_upto_region 4 with ((with_reducible refine wpl_guard ?_); first | (refine wpl_new3 25 zPoly sPoly _ _ rfl rfl rfl rfl rfl _ _ rfl rfl rfl rfl rfl _ _ rfl rfl rfl rfl rfl rfl _ rfl rfl _ rfl rfl _ rfl ?_; intro w4 hn hN1 hN2 hN3; replace hE := hE.keep hn; replace hb := below_step hb hn; clear hn))
      go_wp2_with ((with_reducible refine wpl_guard ?_); first | (refine wpl_load_arr rfl 25 _ rfl _ rfl _ _ hN1 _ _ uPoly sPoly ?_) | (refine wpl_store_arr rfl 25 _ _ rfl _ rfl _ rfl _ _ hE sPoly (by simp only [u8s_size]) (u8s_oneCell _ _) ?_))
      exact bodyPost_ret (res_c rfl rfl (hE.setRow_same (cs := u8s 64 (cf D1))) uPoly sPoly) rfl ⟨rfl, below_setRow hb (by omega) _⟩
set_option maxRecDepth 20000 in
set_option maxHeartbeats 2000000 in
theorem specGcdOf_any (p : Int) (f : Nat → Int) (g : Nat → Int) (w : World) (hf : By f) (hg : By g) (b : Bool) (hb : Good p [f, g] ↔ b = true) (z1 z2 : Bool) (h1 : decide ((mkp 64 f).length = 0) = z1) (h2 : decide ((mkp 64 g).length = 0) = z2) (z : Bool) (hz : (z1 && z2) = z) :
    Calls Try.prog 26 #[.int .i64 p, .agg (u8s 64 f), .agg (u8s 64 g)] w fun e w' => e = .returned (.tuple #[.agg (u8s 64 (if b then (if z then (fun _ => 0) else cf (bez p (mkp 64 f) (mkp 64 g)).1) else fun _ => 0)), .int .i64 (if b then (if z then 5 else 0) else 1)]) ∧ Below w.heap.size w w' := by
  obtain ⟨D1, hD1⟩ : ∃ M, (bez p (mkp 64 f) (mkp 64 g)).1 = M := ⟨_, rfl⟩
  obtain ⟨D2, hD2⟩ : ∃ M, (bez p (mkp 64 f) (mkp 64 g)).2.1 = M := ⟨_, rfl⟩
  obtain ⟨D3, hD3⟩ : ∃ M, (bez p (mkp 64 f) (mkp 64 g)).2.2 = M := ⟨_, rfl⟩
  rw [hD1]
  have hDD := Lib.hid (And.intro hD1 (And.intro hD2 hD3))
  have h1H := Lib.hid h1
  have h2H := Lib.hid h2
  have hzH := Lib.hid hz
  clear hD1 hD2 hD3 h1 h2 hz
  have hTwo := fun w => l01Two_any f g p w hf hg b hb z1 z2 h1H.out h2H.out
  rw [hzH.out] at hTwo
  replace hTwo := Lib.hid hTwo
  have hfH := Lib.hid hf
  have hgH := Lib.hid hg
  have hbH := Lib.hid hb
  clear hf hg hb
  obtain ⟨hb, hA, hB, hE⟩ := boxes3 w (u8s 64 f) (u8s 64 g) (u8s 64 fun _ => 0) 25 25 25
  go_enter Try.func26, Try.ntmps26
  go_wp2_with (first | (refine wpl_alloc_arr rfl 25 rfl _ zPoly ?_) | (refine wpl_load_arr rfl 25 _ rfl _ rfl _ _ hA _ _ uPoly sPoly ?_) | (refine wpl_load_arr rfl 25 _ rfl _ rfl _ _ hB _ _ uPoly sPoly ?_))
  refine (hTwo.out _).mono ?_
  rintro e w1 ⟨rfl, hn⟩
  replace hA := hA.keep hn
  replace hB := hB.keep hn
  replace hE := hE.keep hn
  replace hb := below_step hb hn
  clear hn
  clear hTwo
  cases b
  · go_wp2_with (first | (refine wpl_build_zero rfl 25 64 5 rfl _ uPoly sByte zPoly ?_) | (refine wpl_store_arr rfl 25 _ _ rfl _ rfl _ rfl _ _ hE sPoly rfl (u8s_oneCell _ _) ?_))
    exact bodyPost_ret (res_ct rfl rfl (hE.setRow_same (cs := u8s 64 fun _ => 0)) uPoly sPoly rfl) rfl ⟨rfl, below_setRow hb (by omega) _⟩
  · cases z
    · have hzz := hzH.out
      have hG := hbH.out.2 rfl
      have hxH := Lib.hid (hG.p64 (f := f) (by simp) hfH.out)
      have hyH := Lib.hid (hG.p64 (f := g) (by simp) hgH.out)
      have hneH := Lib.hid (show mkp 64 f ≠ [] ∨ mkp 64 g ≠ [] from by
        cases z1
        · left; exact fun h => by have := (nil_iff h1H.out).1 h; cases this
        · cases z2
          · right; exact fun h => by have := (nil_iff h2H.out).1 h; cases this
          · cases hzz)
      clear hG
      clear hzz
      have hdv : ∀ w, Calls Try.prog 48 #[.int .i64 p, .agg (u8s 64 f), .agg (u8s 64 g)] w fun e w' => e = .returned (.agg (u8s 64 (cf D1))) ∧ Below w.heap.size w w' := fun w => by
        have := l01Gcd_any _ _ p w hxH.out hyH.out
        rwa [show gcdp p (mkp 64 f) (mkp 64 g) = D1 from (if_neg (fun h => hneH.out.elim (fun k => k h.1) (fun k => k h.2))).trans hDD.out.1, ← u8s_mkp, ← u8s_mkp] at this
      have hdvH := Lib.hid hdv
      clear hdv
      go_wp2_with (first | (refine wpl_load_arr rfl 25 _ rfl _ rfl _ _ hA _ _ uPoly sPoly ?_) | (refine wpl_load_arr rfl 25 _ rfl _ rfl _ _ hB _ _ uPoly sPoly ?_))
      refine (hdvH.out _).mono ?_
      rintro e w3 ⟨rfl, hn⟩
      replace hE := hE.keep hn
      replace hb := below_step hb hn
      clear hn
      go_wp2_with (refine wpl_store_arr rfl 25 _ _ rfl _ rfl _ rfl _ _ hE sPoly (by simp only [u8s_size]) (u8s_oneCell _ _) ?_)
      exact bodyPost_ret (res_ct rfl rfl (hE.setRow_same (cs := u8s 64 (cf D1))) uPoly sPoly rfl) rfl ⟨rfl, below_setRow hb (by omega) _⟩
    · go_wp2_with (first | (refine wpl_build_zero rfl 25 64 5 rfl _ uPoly sByte zPoly ?_) | (refine wpl_store_arr rfl 25 _ _ rfl _ rfl _ rfl _ _ hE sPoly rfl (u8s_oneCell _ _) ?_))
      exact bodyPost_ret (res_ct rfl rfl (hE.setRow_same (cs := u8s 64 fun _ => 0)) uPoly sPoly rfl) rfl ⟨rfl, below_setRow hb (by omega) _⟩
set_option maxRecDepth 20000 in
set_option maxHeartbeats 2000000 in
theorem implGcdOf_any (p : Int) (f : Nat → Int) (g : Nat → Int) (w : World) (hf : By f) (hg : By g) (b : Bool) (hb : Good p [f, g] ↔ b = true) (z1 z2 : Bool) (h1 : decide ((mkp 64 f).length = 0) = z1) (h2 : decide ((mkp 64 g).length = 0) = z2) (z : Bool) (hz : (z1 && z2) = z) :
    Calls Try.prog 8 #[.int .i64 p, .agg (u8s 64 f), .agg (u8s 64 g)] w fun e w' => e = .returned (.tuple #[.agg (u8s 64 (if b then (if z then (fun _ => 0) else cf (bez p (mkp 64 f) (mkp 64 g)).1) else fun _ => 0)), .int .i64 (if b then (if z then 5 else 0) else 1)]) ∧ Below w.heap.size w w' := by
  have hBz := Lib.hid (fun w => implBezoutOf_any p f g w hf hg b hb z1 z2 h1 h2 z hz)
  obtain ⟨r0, h0⟩ : ∃ r, (if b then (if z then (fun _ => 0) else cf (bez p (mkp 64 f) (mkp 64 g)).1) else fun _ => 0) = r := ⟨_, rfl⟩
  obtain ⟨r1, e1⟩ : ∃ r, (if b then (if z then (fun _ => 0) else cf (bez p (mkp 64 f) (mkp 64 g)).2.1) else fun _ => 0) = r := ⟨_, rfl⟩
  obtain ⟨r2, e2⟩ : ∃ r, (if b then (if z then (fun _ => 0) else cf (bez p (mkp 64 f) (mkp 64 g)).2.2) else fun _ => 0) = r := ⟨_, rfl⟩
  obtain ⟨r3, e3⟩ : ∃ r : Int, (if b then (if z then 5 else 0) else 1) = r := ⟨_, rfl⟩
  rw [h0, e1, e2, e3] at hBz
  rw [h0, e3]
  clear hf hg hb h1 h2 hz h0 e1 e2 e3
  obtain ⟨hb, hA, hB, hE⟩ := boxes3 w (u8s 64 f) (u8s 64 g) (u8s 64 fun _ => 0) 25 25 25
  go_enter Try.func8, Try.ntmps8
  go_wp2_with (first | (refine wpl_alloc_arr rfl 25 rfl _ zPoly ?_) | (refine wpl_load_arr rfl 25 _ rfl _ rfl _ _ hA _ _ uPoly sPoly ?_) | (refine wpl_load_arr rfl 25 _ rfl _ rfl _ _ hB _ _ uPoly sPoly ?_))
  refine (hBz.out _).mono ?_
  rintro e w3 ⟨rfl, hn⟩
  replace hE := hE.keep hn
  replace hb := below_step hb hn
  clear hn
  have hel := hE.lt
  clear hA hB
  go_upto_region 2 with ((with_reducible refine wpl_guard ?_); first | (refine wpl_new3 25 zPoly sPoly _ _ rfl rfl rfl rfl rfl _ _ rfl rfl rfl rfl rfl _ _ rfl rfl rfl rfl rfl rfl _ rfl rfl _ rfl rfl _ rfl ?_; intro w4 hn hN1 hN2 hN3; replace hE := hE.keep hn; replace hb := below_step hb hn; clear hn))
  go_wp2_with ((with_reducible refine wpl_guard ?_); first | (refine wpl_load_arr rfl 25 _ rfl _ rfl _ _ hN1 _ _ uPoly sPoly ?_) | (refine wpl_store_arr rfl 25 _ _ rfl _ rfl _ rfl _ _ hE sPoly (by simp only [u8s_size]) (u8s_oneCell _ _) ?_))
  exact bodyPost_ret (res_ct rfl rfl (hE.setRow_same (cs := u8s 64 r0)) uPoly sPoly rfl) rfl ⟨rfl, below_setRow hb (by omega) _⟩
theorem GcdOf_pair (p : Int) (f : Nat → Int) (g : Nat → Int) (_ : (Lit.int .i64 p).wf = true) (hf : By f) (hg : By g) : ∃ (r0 : (Nat → Int)) (r1 : Int),
    (∀ w, Calls Try.prog 26 #[.int .i64 p, .agg (u8s 64 f), .agg (u8s 64 g)] w fun e w' => e = .returned (.tuple #[.agg (u8s 64 r0), .int .i64 r1]) ∧ Below w.heap.size w w') ∧
    (∀ w, Calls Try.prog 8 #[.int .i64 p, .agg (u8s 64 f), .agg (u8s 64 g)] w fun e w' => e = .returned (.tuple #[.agg (u8s 64 r0), .int .i64 r1]) ∧ Below w.heap.size w w') := by
  obtain ⟨b, hb⟩ := dec_true (Good p [f, g])
  exact ⟨_, _, fun w => specGcdOf_any p f g w hf hg b hb _ _ rfl rfl _ rfl, fun w => implGcdOf_any p f g w hf hg b hb _ _ rfl rfl _ rfl⟩
end Go.Proofs.Ytddgbnkojdmekaa

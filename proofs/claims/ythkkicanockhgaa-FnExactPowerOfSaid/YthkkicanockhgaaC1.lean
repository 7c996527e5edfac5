/- Walks: sums and differences of polynomials on both sides. -/
import Derived.Test.YthkkicanockhgaaA5
import Derived.Test.YthkkicanockhgaaA4
import Derived.Test.YthkkicanockhgaaS1
import Derived.Test.YthkkicanockhgaaTail
namespace Go.Proofs.Ythkkicanockhgaa
open Go.RowKit

theorem by2 {f g : Nat → Int} (hf : By f) (hg : By g) : ∀ h ∈ [f, g], By h := by
  intro h hh
  simp only [List.mem_cons, List.not_mem_nil, or_false] at hh
  rcases hh with rfl | rfl
  · exact hf
  · exact hg
theorem Good.md {p : Int} {fs : List (Nat → Int)} (h : Good p fs) {f : Nat → Int} (hm : f ∈ fs) (hf : By f) : Po p (mkp 64 f) :=
  ⟨mkp_Tr _ _, Md_mkp (by have := h.1.pos; omega) fun i hi => ⟨(hf i).1, h.2 f hm i hi⟩⟩
theorem told_sum (p t : Int) (f g : Nat → Int) : u8s 64 (toldF (addp p (mkp 64 f) (mkp 64 g) t)) = u8s 64 (sumF p t f g) ∧ toldC (addp p (mkp 64 f) (mkp 64 g) t) = 0 := by
  have hL64 : (addp p (mkp 64 f) (mkp 64 g) t).length ≤ 64 := Nat.le_trans (addp_length p _ _ t) (Nat.max_le.2 ⟨mkp_length 64 f, mkp_length 64 g⟩)
  refine ⟨u8s_ext fun i hi => ?_, if_pos hL64⟩
  unfold toldF
  rw [if_pos hL64, addp_cf, mkp_cf, mkp_cf, if_pos hi, if_pos hi]; rfl
theorem mkp_big (f : Nat → Int) : (mkp 64 f).length ≤ 100000000 := by have := mkp_length 64 f; omega
theorem By_of_Po {p : Int} {xs : List Int} (hp : Pr p) (h : Po p xs) (i : Nat) : 0 ≤ cf xs i ∧ cf xs i ≤ 255 := by
  have := cf_lt7 hp h.md i; omega
set_option maxHeartbeats 1000000 in
theorem specAddPolys_any (f g : Nat → Int) (p : Int) (w : World) (hf : By f) (hg : By g) (b : Bool) (hb : Good p [f, g] ↔ b = true) :
    Calls Try.prog 15 #[.int .i64 p, .agg (u8s 64 f), .agg (u8s 64 g)] w fun e w' => e = .returned (.tuple #[.agg (u8s 64 (if b then sumF p 1 f g else fun _ => 0)), .int .i64 (codeOf b)]) ∧ Below w.heap.size w w' := by
  have hfH := Lib.hid hf; clear hf
  have hgH := Lib.hid hg; clear hg
  have hbH := Lib.hid hb; clear hb
  obtain ⟨hb0, hA, hB, hZ⟩ := boxes3 w (u8s 64 f) (u8s 64 g) (u8s 64 fun _ => 0) 23 23 23
  go_enter Try.func15, Try.ntmps15
  go_wp2_with (first | (refine wpl_alloc_arr rfl 23 rfl _ zPoly ?_) | (refine wpl_load_arr rfl 23 _ rfl _ rfl _ _ hA _ _ uPoly sPoly ?_) | (refine wpl_load_arr rfl 23 _ rfl _ rfl _ _ hB _ _ uPoly sPoly ?_) | (refine wpl_buildSlice_polys rfl 83 23 2 _ rfl Try.underlying83 sPoly zPoly [f, g] rfl (by decide) (by decide) rfl ?_))
  refine (l01Code_lit [f, g] 2 128 rfl rfl (by omega) p _ _ _ (Blk.newAt (by simp) _ _) (by2 hfH.out hgH.out) b hbH.out).mono ?_
  rintro e w1 ⟨rfl, hb1⟩
  have hb2 := below_step hb0 (below_step (below_new _ _) hb1)
  have hA1 := (hA.alloc _).keep hb1
  have hB1 := (hB.alloc _).keep hb1
  have hZ1 := (hZ.alloc _).keep hb1
  clear hA hB hZ hb0 hb1
  cases b
  · go_wp2_with (first | (refine wpl_build_zero rfl 23 64 5 rfl _ uPoly sByte zPoly ?_) | (refine wpl_store_arr rfl 23 _ _ rfl _ rfl _ rfl _ _ hZ1 sPoly rfl (u8s_oneCell _ _) ?_))
    refine bodyPost_ret (res_ct rfl rfl (hZ1.setRow_same (cs := u8s 64 fun _ => 0)) uPoly sPoly rfl) rfl ⟨rfl, below_setRow hb2 (by omega) _⟩
  · have hpH := Lib.hid (hbH.out.2 rfl).1
    go_wp2_with (first | (refine wpl_load_arr rfl 23 _ rfl _ rfl _ _ hA1 _ _ uPoly sPoly ?_) | (refine wpl_load_arr rfl 23 _ rfl _ rfl _ _ hB1 _ _ uPoly sPoly ?_))
    refine (l01Add_sum f g p 1 _ hpH.out hfH.out hgH.out (by decide) (by decide)).mono ?_
    rintro e w2 ⟨rfl, hb3⟩
    have hZ2 := hZ1.keep hb3
    have hb4 := below_step hb2 hb3
    clear hA1 hB1 hZ1 hb2 hb3
    go_wp2_with (refine wpl_store_arr rfl 23 _ _ rfl _ rfl _ rfl _ _ hZ2 sPoly rfl (u8s_oneCell _ _) ?_)
    exact bodyPost_ret (res_ct rfl rfl (hZ2.setRow_same (cs := u8s 64 (sumF p 1 f g))) uPoly sPoly rfl) rfl ⟨rfl, below_setRow hb4 (by omega) _⟩

set_option maxHeartbeats 1000000 in
theorem implAddPolys_any (f g : Nat → Int) (p : Int) (w : World) (hf : By f) (hg : By g) (b : Bool) (hb : Good p [f, g] ↔ b = true) :
    Calls Try.prog 17 #[.int .i64 p, .agg (u8s 64 f), .agg (u8s 64 g)] w fun e w' => e = .returned (.tuple #[.agg (u8s 64 (if b then sumF p 1 f g else fun _ => 0)), .int .i64 (codeOf b)]) ∧ Below w.heap.size w w' := by
  have hfH := Lib.hid hf; clear hf
  have hgH := Lib.hid hg; clear hg
  have hbH := Lib.hid hb; clear hb
  obtain ⟨hb0, hA, hB, hZ⟩ := boxes3 w (u8s 64 f) (u8s 64 g) (u8s 64 fun _ => 0) 23 23 23
  go_enter Try.func17, Try.ntmps17
  go_wp2_with (first | (refine wpl_alloc_arr rfl 23 rfl _ zPoly ?_) | (refine wpl_load_arr rfl 23 _ rfl _ rfl _ _ hA _ _ uPoly sPoly ?_) | (refine wpl_load_arr rfl 23 _ rfl _ rfl _ _ hB _ _ uPoly sPoly ?_) | (refine wpl_buildSlice_polys rfl 83 23 2 _ rfl Try.underlying83 sPoly zPoly [f, g] rfl (by decide) (by decide) rfl ?_))
  refine (polysCode_lit [f, g] 2 128 rfl rfl (by omega) p _ _ _ (Blk.newAt (by simp) _ _) (by2 hfH.out hgH.out) b hbH.out).mono ?_
  rintro e w1 ⟨rfl, hb1⟩
  have hb2 := below_step hb0 (below_step (below_new _ _) hb1)
  have hA1 := (hA.alloc _).keep hb1
  have hB1 := (hB.alloc _).keep hb1
  have hZ1 := (hZ.alloc _).keep hb1
  clear hA hB hZ hb0 hb1
  cases b
  · go_wp2_with (first | (refine wpl_build_zero rfl 23 64 5 rfl _ uPoly sByte zPoly ?_) | (refine wpl_store_arr rfl 23 _ _ rfl _ rfl _ rfl _ _ hZ1 sPoly rfl (u8s_oneCell _ _) ?_))
    refine bodyPost_ret (res_ct rfl rfl (hZ1.setRow_same (cs := u8s 64 fun _ => 0)) uPoly sPoly rfl) rfl ⟨rfl, below_setRow hb2 (by omega) _⟩
  · have hG := hbH.out.2 rfl
    have hpH := Lib.hid hG.1
    have hxH := Lib.hid (hG.md (f := f) (by simp) hfH.out)
    have hyH := Lib.hid (hG.md (f := g) (by simp) hgH.out)
    have hsH := Lib.hid (addp_Po (p := p) (by have := hG.1.pos; omega) (mkp 64 f) (mkp 64 g) 1)
    have hS := Lib.hid (And.intro hA1.drew.range (And.intro hB1.drew.range (And.intro hZ1.drew.there hb2.drew)))
    clear hG hA1 hB1 hZ1
    go_upto_region 4 with (fail)
    refine wp_region_noPanic ?_
    refine wp_region_held_drew (S := fun w' => w'.rangeAt w.heap.size 0 (l8 64 f) ∧ w'.rangeAt (w.heap.size + 1) 0 (l8 64 g) ∧ w'.there (w.heap.size + 1 + 1) 0 64 ∧ Below w.heap.size w w') (by kernel_rfl) hS.out (fun hHeld => ?_)
    refine anyH_val (i := 0) (.int .i64 p) rfl (by kernel_rfl) (by kernel_rfl) (by kernel_rfl) rfl (fun _ => by kernel_rfl) hHeld ?_
    simp only [Act.put, List.setIfInBounds_toArray, List.set_cons_zero, List.set_cons_succ]
    refine anyH_load (i := 1) rfl (by kernel_rfl) (by kernel_rfl) (by kernel_rfl) rfl 23 _ rfl w.heap.size 64 _ f (by kernel_rfl) (fun _ h => h.1) uPoly sPoly hHeld ?_
    simp only [Act.put, List.setIfInBounds_toArray, List.set_cons_zero, List.set_cons_succ]
    refine anyH_load (i := 3) rfl (by kernel_rfl) (by kernel_rfl) (by kernel_rfl) rfl 23 _ rfl (w.heap.size + 1) 64 _ g (by kernel_rfl) (fun _ h => h.2.1) uPoly sPoly hHeld ?_
    simp only [Act.put, List.setIfInBounds_toArray, List.set_cons_zero, List.set_cons_succ]
    refine anyH_call (i := 2) (by kernel_rfl) rfl rfl 49 _ _ rfl [.agg (u8s 64 f)] (by kernel_rfl) Try.call49 ?_
    refine (rowOf_any f _ hfH.out.on).mono ?_
    rintro e w2 ⟨v1, rfl, hr1, hb3⟩
    replace hHeld := keep2 hHeld hb3
    refine ⟨v1, rfl, hHeld, ?_⟩
    simp only [Act.put, List.setIfInBounds_toArray, List.set_cons_zero, List.set_cons_succ]
    refine anyH_call (i := 4) (by kernel_rfl) rfl rfl 49 _ _ rfl [.agg (u8s 64 g)] (by kernel_rfl) Try.call49 ?_
    refine (rowOf_any g _ hgH.out.on).mono ?_
    rintro e w3 ⟨v2, rfl, hr2, hb4⟩
    replace hHeld := keep2 hHeld hb4
    replace hr1 := hr1.below hb4
    refine ⟨v2, rfl, hHeld, ?_⟩
    simp only [Act.put, List.setIfInBounds_toArray, List.set_cons_zero, List.set_cons_succ]
    refine anyH_call (i := 5) (by kernel_rfl) rfl rfl 48 _ _ rfl [.int .i64 p, v1, v2, .int .i64 1] (by kernel_rfl) Try.call48 ?_
    refine (combine_any _ _ (mkp 64 f) (mkp 64 g) p _ _ hpH.out hr1 hr2 hxH.out.md hyH.out.md (by decide) (by decide) (mkp_big f) (mkp_big g)).mono ?_
    rintro e w4 ⟨v3, rfl, hr3, hb5⟩
    replace hHeld := keep2 hHeld hb5
    refine ⟨v3, rfl, hHeld, ?_⟩
    simp only [Act.put, List.setIfInBounds_toArray, List.set_cons_zero, List.set_cons_succ]
    refine anyH_call (i := 6) (by kernel_rfl) rfl rfl 47 _ _ rfl [v3] (by kernel_rfl) Try.call47 ?_
    refine (told_any _ _ _ hr3 (fun i => By_of_Po hpH.out hsH.out i)).mono ?_
    rintro e w5 ⟨rfl, hb6⟩
    replace hHeld := keep2 hHeld hb6
    refine ⟨_, rfl, hHeld, ?_⟩
    rw [(told_sum p 1 f g).1, (told_sum p 1 f g).2]
    simp only [Act.put, List.setIfInBounds_toArray, List.set_cons_zero, List.set_cons_succ]
    refine anyH_extract (i := 7) rfl (by kernel_rfl) (by kernel_rfl) (by kernel_rfl) rfl _ 0 rfl #[.agg (u8s 64 (sumF p 1 f g)), .int .i64 0] (by kernel_rfl) (.agg (u8s 64 (sumF p 1 f g))) (by simp) hHeld ?_
    simp only [Act.put, List.setIfInBounds_toArray, List.set_cons_zero, List.set_cons_succ]
    refine anyH_extract (i := 8) rfl (by kernel_rfl) (by kernel_rfl) (by kernel_rfl) rfl _ 1 rfl #[.agg (u8s 64 (sumF p 1 f g)), .int .i64 0] (by kernel_rfl) (.int .i64 0) (by simp) hHeld ?_
    simp only [Act.put, List.setIfInBounds_toArray, List.set_cons_zero, List.set_cons_succ]
    refine anyH_store (i := 9) (by kernel_rfl) rfl rfl 23 _ _ rfl (w.heap.size + 1 + 1) 64 (by kernel_rfl) (sumF p 1 f g) (by kernel_rfl) hHeld.2.2.1 sPoly ?_
    have hHeld2 := keep2_store (vs := l8 64 (sumF p 1 f g)) (by omega) (by omega) (by omega) hHeld
    have hres := World.rangeAt_setCells_same w5 (w.heap.size + 1 + 1) 0 (l8 64 (sumF p 1 f g)) (by rw [l8_len]; exact hHeld.2.2.1)
    refine ⟨hHeld2, ?_⟩
    simp only [Act.put, List.setIfInBounds_toArray, List.set_cons_zero, List.set_cons_succ]
    refine anyH_val (i := 10) (.int .i64 0) rfl (by kernel_rfl) (by kernel_rfl) (by kernel_rfl) rfl (fun _ => by kernel_rfl) hHeld2 ?_
    simp only [Act.put, List.setIfInBounds_toArray, List.set_cons_zero, List.set_cons_succ]
    refine wpAnyH_done (by kernel_rfl) (NoPanic.normal ?_) _
    clear hHeld
    go_wp2_with fail
    exact bodyPost_ret (res_ct_mid rfl rfl hres uPoly (by rw [l8_len]; exact sPoly) rfl) rfl ⟨rfl, hHeld2.2.2.2⟩

theorem AddPolys_pair (p : Int) (f g : Nat → Int) (_ : (Lit.int .i64 p).wf = true) (hf : By f) (hg : By g) : ∃ (r0 : Nat → Int) (r1 : Int),
    (∀ w, Calls Try.prog 15 #[.int .i64 p, .agg (u8s 64 f), .agg (u8s 64 g)] w fun e w' => e = .returned (.tuple #[.agg (u8s 64 r0), .int .i64 r1]) ∧ Below w.heap.size w w') ∧
    (∀ w, Calls Try.prog 17 #[.int .i64 p, .agg (u8s 64 f), .agg (u8s 64 g)] w fun e w' => e = .returned (.tuple #[.agg (u8s 64 r0), .int .i64 r1]) ∧ Below w.heap.size w w') := by
  obtain ⟨b, hb⟩ := dec_true (Good p [f, g])
  exact ⟨_, _, fun w => specAddPolys_any f g p w hf hg b hb, fun w => implAddPolys_any f g p w hf hg b hb⟩
set_option maxHeartbeats 1000000 in
theorem specSubtractPolys_any (f g : Nat → Int) (p : Int) (w : World) (hf : By f) (hg : By g) (b : Bool) (hb : Good p [f, g] ↔ b = true) :
    Calls Try.prog 19 #[.int .i64 p, .agg (u8s 64 f), .agg (u8s 64 g)] w fun e w' => e = .returned (.tuple #[.agg (u8s 64 (if b then sumF p (-1) f g else fun _ => 0)), .int .i64 (codeOf b)]) ∧ Below w.heap.size w w' := by
  have hfH := Lib.hid hf; clear hf
  have hgH := Lib.hid hg; clear hg
  have hbH := Lib.hid hb; clear hb
  obtain ⟨hb0, hA, hB, hZ⟩ := boxes3 w (u8s 64 f) (u8s 64 g) (u8s 64 fun _ => 0) 23 23 23
  go_enter Try.func19, Try.ntmps19
  go_wp2_with (first | (refine wpl_alloc_arr rfl 23 rfl _ zPoly ?_) | (refine wpl_load_arr rfl 23 _ rfl _ rfl _ _ hA _ _ uPoly sPoly ?_) | (refine wpl_load_arr rfl 23 _ rfl _ rfl _ _ hB _ _ uPoly sPoly ?_) | (refine wpl_buildSlice_polys rfl 83 23 2 _ rfl Try.underlying83 sPoly zPoly [f, g] rfl (by decide) (by decide) rfl ?_))
  refine (l01Code_lit [f, g] 2 128 rfl rfl (by omega) p _ _ _ (Blk.newAt (by simp) _ _) (by2 hfH.out hgH.out) b hbH.out).mono ?_
  rintro e w1 ⟨rfl, hb1⟩
  have hb2 := below_step hb0 (below_step (below_new _ _) hb1)
  have hA1 := (hA.alloc _).keep hb1
  have hB1 := (hB.alloc _).keep hb1
  have hZ1 := (hZ.alloc _).keep hb1
  clear hA hB hZ hb0 hb1
  cases b
  · go_wp2_with (first | (refine wpl_build_zero rfl 23 64 5 rfl _ uPoly sByte zPoly ?_) | (refine wpl_store_arr rfl 23 _ _ rfl _ rfl _ rfl _ _ hZ1 sPoly rfl (u8s_oneCell _ _) ?_))
    refine bodyPost_ret (res_ct rfl rfl (hZ1.setRow_same (cs := u8s 64 fun _ => 0)) uPoly sPoly rfl) rfl ⟨rfl, below_setRow hb2 (by omega) _⟩
  · have hpH := Lib.hid (hbH.out.2 rfl).1
    go_wp2_with (first | (refine wpl_load_arr rfl 23 _ rfl _ rfl _ _ hA1 _ _ uPoly sPoly ?_) | (refine wpl_load_arr rfl 23 _ rfl _ rfl _ _ hB1 _ _ uPoly sPoly ?_))
    refine (l01Add_sum f g p (-1) _ hpH.out hfH.out hgH.out (by decide) (by decide)).mono ?_
    rintro e w2 ⟨rfl, hb3⟩
    have hZ2 := hZ1.keep hb3
    have hb4 := below_step hb2 hb3
    clear hA1 hB1 hZ1 hb2 hb3
    go_wp2_with (refine wpl_store_arr rfl 23 _ _ rfl _ rfl _ rfl _ _ hZ2 sPoly rfl (u8s_oneCell _ _) ?_)
    exact bodyPost_ret (res_ct rfl rfl (hZ2.setRow_same (cs := u8s 64 (sumF p (-1) f g))) uPoly sPoly rfl) rfl ⟨rfl, below_setRow hb4 (by omega) _⟩

set_option maxHeartbeats 1000000 in
theorem implSubtractPolys_any (f g : Nat → Int) (p : Int) (w : World) (hf : By f) (hg : By g) (b : Bool) (hb : Good p [f, g] ↔ b = true) :
    Calls Try.prog 20 #[.int .i64 p, .agg (u8s 64 f), .agg (u8s 64 g)] w fun e w' => e = .returned (.tuple #[.agg (u8s 64 (if b then sumF p (-1) f g else fun _ => 0)), .int .i64 (codeOf b)]) ∧ Below w.heap.size w w' := by
  have hfH := Lib.hid hf; clear hf
  have hgH := Lib.hid hg; clear hg
  have hbH := Lib.hid hb; clear hb
  obtain ⟨hb0, hA, hB, hZ⟩ := boxes3 w (u8s 64 f) (u8s 64 g) (u8s 64 fun _ => 0) 23 23 23
  go_enter Try.func20, Try.ntmps20
  go_wp2_with (first | (refine wpl_alloc_arr rfl 23 rfl _ zPoly ?_) | (refine wpl_load_arr rfl 23 _ rfl _ rfl _ _ hA _ _ uPoly sPoly ?_) | (refine wpl_load_arr rfl 23 _ rfl _ rfl _ _ hB _ _ uPoly sPoly ?_) | (refine wpl_buildSlice_polys rfl 83 23 2 _ rfl Try.underlying83 sPoly zPoly [f, g] rfl (by decide) (by decide) rfl ?_))
  refine (polysCode_lit [f, g] 2 128 rfl rfl (by omega) p _ _ _ (Blk.newAt (by simp) _ _) (by2 hfH.out hgH.out) b hbH.out).mono ?_
  rintro e w1 ⟨rfl, hb1⟩
  have hb2 := below_step hb0 (below_step (below_new _ _) hb1)
  have hA1 := (hA.alloc _).keep hb1
  have hB1 := (hB.alloc _).keep hb1
  have hZ1 := (hZ.alloc _).keep hb1
  clear hA hB hZ hb0 hb1
  cases b
  · go_wp2_with (first | (refine wpl_build_zero rfl 23 64 5 rfl _ uPoly sByte zPoly ?_) | (refine wpl_store_arr rfl 23 _ _ rfl _ rfl _ rfl _ _ hZ1 sPoly rfl (u8s_oneCell _ _) ?_))
    refine bodyPost_ret (res_ct rfl rfl (hZ1.setRow_same (cs := u8s 64 fun _ => 0)) uPoly sPoly rfl) rfl ⟨rfl, below_setRow hb2 (by omega) _⟩
  · have hG := hbH.out.2 rfl
    have hpH := Lib.hid hG.1
    have hxH := Lib.hid (hG.md (f := f) (by simp) hfH.out)
    have hyH := Lib.hid (hG.md (f := g) (by simp) hgH.out)
    have hsH := Lib.hid (addp_Po (p := p) (by have := hG.1.pos; omega) (mkp 64 f) (mkp 64 g) (-1))
    have hS := Lib.hid (And.intro hA1.drew.range (And.intro hB1.drew.range (And.intro hZ1.drew.there hb2.drew)))
    clear hG hA1 hB1 hZ1
    go_upto_region 4 with (fail)
    refine wp_region_noPanic ?_
    refine wp_region_held_drew (S := fun w' => w'.rangeAt w.heap.size 0 (l8 64 f) ∧ w'.rangeAt (w.heap.size + 1) 0 (l8 64 g) ∧ w'.there (w.heap.size + 1 + 1) 0 64 ∧ Below w.heap.size w w') (by kernel_rfl) hS.out (fun hHeld => ?_)
    refine anyH_val (i := 0) (.int .i64 p) rfl (by kernel_rfl) (by kernel_rfl) (by kernel_rfl) rfl (fun _ => by kernel_rfl) hHeld ?_
    simp only [Act.put, List.setIfInBounds_toArray, List.set_cons_zero, List.set_cons_succ]
    refine anyH_load (i := 1) rfl (by kernel_rfl) (by kernel_rfl) (by kernel_rfl) rfl 23 _ rfl w.heap.size 64 _ f (by kernel_rfl) (fun _ h => h.1) uPoly sPoly hHeld ?_
    simp only [Act.put, List.setIfInBounds_toArray, List.set_cons_zero, List.set_cons_succ]
    refine anyH_load (i := 3) rfl (by kernel_rfl) (by kernel_rfl) (by kernel_rfl) rfl 23 _ rfl (w.heap.size + 1) 64 _ g (by kernel_rfl) (fun _ h => h.2.1) uPoly sPoly hHeld ?_
    simp only [Act.put, List.setIfInBounds_toArray, List.set_cons_zero, List.set_cons_succ]
    refine anyH_call (i := 2) (by kernel_rfl) rfl rfl 49 _ _ rfl [.agg (u8s 64 f)] (by kernel_rfl) Try.call49 ?_
    refine (rowOf_any f _ hfH.out.on).mono ?_
    rintro e w2 ⟨v1, rfl, hr1, hb3⟩
    replace hHeld := keep2 hHeld hb3
    refine ⟨v1, rfl, hHeld, ?_⟩
    simp only [Act.put, List.setIfInBounds_toArray, List.set_cons_zero, List.set_cons_succ]
    refine anyH_call (i := 4) (by kernel_rfl) rfl rfl 49 _ _ rfl [.agg (u8s 64 g)] (by kernel_rfl) Try.call49 ?_
    refine (rowOf_any g _ hgH.out.on).mono ?_
    rintro e w3 ⟨v2, rfl, hr2, hb4⟩
    replace hHeld := keep2 hHeld hb4
    replace hr1 := hr1.below hb4
    refine ⟨v2, rfl, hHeld, ?_⟩
    simp only [Act.put, List.setIfInBounds_toArray, List.set_cons_zero, List.set_cons_succ]
    refine anyH_call (i := 5) (by kernel_rfl) rfl rfl 48 _ _ rfl [.int .i64 p, v1, v2, .int .i64 (-1)] (by kernel_rfl) Try.call48 ?_
    refine (combine_any _ _ (mkp 64 f) (mkp 64 g) p _ _ hpH.out hr1 hr2 hxH.out.md hyH.out.md (by decide) (by decide) (mkp_big f) (mkp_big g)).mono ?_
    rintro e w4 ⟨v3, rfl, hr3, hb5⟩
    replace hHeld := keep2 hHeld hb5
    refine ⟨v3, rfl, hHeld, ?_⟩
    simp only [Act.put, List.setIfInBounds_toArray, List.set_cons_zero, List.set_cons_succ]
    refine anyH_call (i := 6) (by kernel_rfl) rfl rfl 47 _ _ rfl [v3] (by kernel_rfl) Try.call47 ?_
    refine (told_any _ _ _ hr3 (fun i => By_of_Po hpH.out hsH.out i)).mono ?_
    rintro e w5 ⟨rfl, hb6⟩
    replace hHeld := keep2 hHeld hb6
    refine ⟨_, rfl, hHeld, ?_⟩
    rw [(told_sum p (-1) f g).1, (told_sum p (-1) f g).2]
    simp only [Act.put, List.setIfInBounds_toArray, List.set_cons_zero, List.set_cons_succ]
    refine anyH_extract (i := 7) rfl (by kernel_rfl) (by kernel_rfl) (by kernel_rfl) rfl _ 0 rfl #[.agg (u8s 64 (sumF p (-1) f g)), .int .i64 0] (by kernel_rfl) (.agg (u8s 64 (sumF p (-1) f g))) (by simp) hHeld ?_
    simp only [Act.put, List.setIfInBounds_toArray, List.set_cons_zero, List.set_cons_succ]
    refine anyH_extract (i := 8) rfl (by kernel_rfl) (by kernel_rfl) (by kernel_rfl) rfl _ 1 rfl #[.agg (u8s 64 (sumF p (-1) f g)), .int .i64 0] (by kernel_rfl) (.int .i64 0) (by simp) hHeld ?_
    simp only [Act.put, List.setIfInBounds_toArray, List.set_cons_zero, List.set_cons_succ]
    refine anyH_store (i := 9) (by kernel_rfl) rfl rfl 23 _ _ rfl (w.heap.size + 1 + 1) 64 (by kernel_rfl) (sumF p (-1) f g) (by kernel_rfl) hHeld.2.2.1 sPoly ?_
    have hHeld2 := keep2_store (vs := l8 64 (sumF p (-1) f g)) (by omega) (by omega) (by omega) hHeld
    have hres := World.rangeAt_setCells_same w5 (w.heap.size + 1 + 1) 0 (l8 64 (sumF p (-1) f g)) (by rw [l8_len]; exact hHeld.2.2.1)
    refine ⟨hHeld2, ?_⟩
    simp only [Act.put, List.setIfInBounds_toArray, List.set_cons_zero, List.set_cons_succ]
    refine anyH_val (i := 10) (.int .i64 0) rfl (by kernel_rfl) (by kernel_rfl) (by kernel_rfl) rfl (fun _ => by kernel_rfl) hHeld2 ?_
    simp only [Act.put, List.setIfInBounds_toArray, List.set_cons_zero, List.set_cons_succ]
    refine wpAnyH_done (by kernel_rfl) (NoPanic.normal ?_) _
    clear hHeld
    go_wp2_with fail
    exact bodyPost_ret (res_ct_mid rfl rfl hres uPoly (by rw [l8_len]; exact sPoly) rfl) rfl ⟨rfl, hHeld2.2.2.2⟩

theorem SubtractPolys_pair (p : Int) (f g : Nat → Int) (_ : (Lit.int .i64 p).wf = true) (hf : By f) (hg : By g) : ∃ (r0 : Nat → Int) (r1 : Int),
    (∀ w, Calls Try.prog 19 #[.int .i64 p, .agg (u8s 64 f), .agg (u8s 64 g)] w fun e w' => e = .returned (.tuple #[.agg (u8s 64 r0), .int .i64 r1]) ∧ Below w.heap.size w w') ∧
    (∀ w, Calls Try.prog 20 #[.int .i64 p, .agg (u8s 64 f), .agg (u8s 64 g)] w fun e w' => e = .returned (.tuple #[.agg (u8s 64 r0), .int .i64 r1]) ∧ Below w.heap.size w w') := by
  obtain ⟨b, hb⟩ := dec_true (Good p [f, g])
  exact ⟨_, _, fun w => specSubtractPolys_any f g p w hf hg b hb, fun w => implSubtractPolys_any f g p w hf hg b hb⟩
end Go.Proofs.Ythkkicanockhgaa

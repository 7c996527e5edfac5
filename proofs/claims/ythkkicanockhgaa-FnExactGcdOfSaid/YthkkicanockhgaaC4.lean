/- Walks: greatest common divisors with their factors on both sides. -/
import Derived.Test.YthkkicanockhgaaS5
import Derived.Test.YthkkicanockhgaaC3
namespace Go.Proofs.Ythkkicanockhgaa
open Go.RowKit

theorem bzl_P64 {p : Int} : ∀ (n : Nat) {A B : Nat} {a b u x v y : List Int}, BzP p A B a b u x v y → P64 p (bzl p n a b u x v y).1 ∧ P64 p (bzl p n a b u x v y).2.1 ∧ P64 p (bzl p n a b u x v y).2.2
  | 0, _, _, _, _, _, _, _, _, h => ⟨h.a, h.u, h.v⟩
  | n + 1, A, B, a, b, u, x, v, y, h => by
    by_cases hb : b = []
    · subst hb; rw [bzl_stop]; exact ⟨h.a, h.u, h.v⟩
    · rw [bzl_go hb]
      exact bzl_P64 n (A := A) (B := B) ⟨h.s.step h.pr h.hA h.hB hb, h.pr, h.hA, h.hB⟩
theorem bez_P64 {p : Int} {xs ys : List Int} (hx : P64 p xs) (hy : P64 p ys) (hne : xs ≠ [] ∨ ys ≠ []) : P64 p (bez p xs ys).1 ∧ P64 p (bez p xs ys).2.1 ∧ P64 p (bez p xs ys).2.2 := by
  have h := bzl_P64 (ys.length + 1) (BzP.mk (BzS.start hx.pr hx.po hy.po hx.le hy.le hne) hx.pr hx.le hy.le)
  exact ⟨(P64.nil hx.pr).addp h.1 _, (P64.nil hx.pr).addp h.2.1 _, (P64.nil hx.pr).addp h.2.2 _⟩
theorem nil_iff {f : Nat → Int} {z : Bool} (h : decide ((mkp 64 f).length = 0) = z) : mkp 64 f = [] ↔ z = true := by
  rw [← h, decide_eq_true_iff, List.length_eq_zero_iff]

set_option maxRecDepth 20000 in
set_option maxHeartbeats 2000000 in
theorem l01Two_any (f g : Nat → Int) (p : Int) (w : World) (hf : By f) (hg : By g) (b : Bool) (hb : Good p [f, g] ↔ b = true) (z1 z2 : Bool) (h1 : decide ((mkp 64 f).length = 0) = z1) (h2 : decide ((mkp 64 g).length = 0) = z2) :
    Calls Try.prog 73 #[.int .i64 p, .agg (u8s 64 f), .agg (u8s 64 g)] w fun e w' => e = .returned (.int .i64 (if b then (if z1 && z2 then 5 else 0) else 1)) ∧ Below w.heap.size w w' := by
  have d1 : decide (((mkp 64 f).length : Int) - 1 < 0) = z1 := by rw [← h1]; apply decide_eq_decide.2; omega
  have d2 : decide (((mkp 64 g).length : Int) - 1 < 0) = z2 := by rw [← h2]; apply decide_eq_decide.2; omega
  have hg1 := Lib.hid (fun w => l01Deg_any f w fun i _ => hf i)
  have hg2 := Lib.hid (fun w => l01Deg_any g w fun i _ => hg i)
  have hfH := Lib.hid hf
  have hgH := Lib.hid hg
  have hbH := Lib.hid hb
  clear hf hg hb h1 h2
  generalize ((mkp 64 f).length : Int) - 1 = n1 at *
  generalize ((mkp 64 g).length : Int) - 1 = n2 at *
  obtain ⟨hb, hA, hB⟩ := boxes2 w (u8s 64 f) (u8s 64 g) 23 23
  go_enter Try.func73, Try.ntmps73
  go_wp2_with (first | (refine wpl_load_arr rfl 23 _ rfl _ rfl _ _ hA _ _ uPoly sPoly ?_) | (refine wpl_load_arr rfl 23 _ rfl _ rfl _ _ hB _ _ uPoly sPoly ?_) | (refine wpl_buildSlice_polys rfl 83 23 2 _ rfl Try.underlying83 sPoly zPoly [f, g] rfl (by decide) (by decide) rfl ?_))
  refine (l01Code_lit [f, g] 2 128 rfl rfl (by omega) p _ _ _ (Blk.newAt (by simp) _ _) (by2 hfH.out hgH.out) b hbH.out).mono ?_
  rintro e w1 ⟨rfl, hb1⟩
  replace hb := below_step hb (below_step (below_new _ _) hb1)
  replace hA := (hA.alloc _).keep hb1
  replace hB := (hB.alloc _).keep hb1
  clear hb1 hbH hfH hgH
  cases b
  · go_wp2_with fail
    go_ret
    exact ⟨rfl, hb⟩
  · go_wp2_with (first | (refine wpl_load_arr rfl 23 _ rfl _ rfl _ _ hA _ _ uPoly sPoly ?_) | (refine wpl_load_arr rfl 23 _ rfl _ rfl _ _ hB _ _ uPoly sPoly ?_))
    refine (hg1.out _).mono ?_
    rintro e w2 ⟨rfl, hn⟩
    replace hA := hA.keep hn
    replace hB := hB.keep hn
    replace hb := below_step hb hn
    clear hn
    cases z1
    · have hlt : ¬ n1 < 0 := of_decide_eq_false d1
      clear d1 d2
      go_wp2_with fail
      go_ret
      exact ⟨rfl, hb⟩
    · have hlt : n1 < 0 := of_decide_eq_true d1
      clear d1
      go_wp2_with (first | (refine wpl_load_arr rfl 23 _ rfl _ rfl _ _ hA _ _ uPoly sPoly ?_) | (refine wpl_load_arr rfl 23 _ rfl _ rfl _ _ hB _ _ uPoly sPoly ?_))
      refine (hg2.out _).mono ?_
      rintro e w3 ⟨rfl, hn⟩
      replace hA := hA.keep hn
      replace hB := hB.keep hn
      replace hb := below_step hb hn
      clear hn
      cases z2
      · have hlt2 : ¬ n2 < 0 := of_decide_eq_false d2
        clear d2
        go_wp2_with fail
        go_ret
        exact ⟨rfl, hb⟩
      · have hlt2 : n2 < 0 := of_decide_eq_true d2
        clear d2
        go_wp2_with fail
        go_ret
        exact ⟨rfl, hb⟩

set_option maxRecDepth 20000 in
set_option maxHeartbeats 2000000 in
theorem specBezoutOf_any (p : Int) (f : Nat → Int) (g : Nat → Int) (w : World) (hf : By f) (hg : By g) (b : Bool) (hb : Good p [f, g] ↔ b = true) (z1 z2 : Bool) (h1 : decide ((mkp 64 f).length = 0) = z1) (h2 : decide ((mkp 64 g).length = 0) = z2) (z : Bool) (hz : (z1 && z2) = z) :
    Calls Try.prog 38 #[.int .i64 p, .agg (u8s 64 f), .agg (u8s 64 g)] w fun e w' => e = .returned (.tuple #[.agg (u8s 64 (if b then (if z then (fun _ => 0) else cf (bez p (mkp 64 f) (mkp 64 g)).1) else fun _ => 0)), .agg (u8s 64 (if b then (if z then (fun _ => 0) else cf (bez p (mkp 64 f) (mkp 64 g)).2.1) else fun _ => 0)), .agg (u8s 64 (if b then (if z then (fun _ => 0) else cf (bez p (mkp 64 f) (mkp 64 g)).2.2) else fun _ => 0)), .int .i64 (if b then (if z then 5 else 0) else 1)]) ∧ Below w.heap.size w w' := by
  obtain ⟨D1, hD1⟩ : ∃ M, (bez p (mkp 64 f) (mkp 64 g)).1 = M := ⟨_, rfl⟩
  obtain ⟨D2, hD2⟩ : ∃ M, (bez p (mkp 64 f) (mkp 64 g)).2.1 = M := ⟨_, rfl⟩
  obtain ⟨D3, hD3⟩ : ∃ M, (bez p (mkp 64 f) (mkp 64 g)).2.2 = M := ⟨_, rfl⟩
  rw [hD1, hD2, hD3]
  have hDD := Lib.hid (And.intro hD1 (And.intro hD2 hD3))
  have h1H := Lib.hid h1
  have h2H := Lib.hid h2
  have hzH := Lib.hid hz
  clear hD1 hD2 hD3 h1 h2 hz
  have hTwo := fun w => l01Two_any f g p w hf hg b hb z1 z2 h1H.out h2H.out
  rw [hzH.out] at hTwo
  replace hTwo := Lib.hid hTwo
  have hfH := Lib.hid hf
  have hgH := Lib.hid hg
  have hbH := Lib.hid hb
  clear hf hg hb
  obtain ⟨w0, hw0, hb, hA, hB, hE, hF, hG⟩ := boxes5 w (u8s 64 f) (u8s 64 g) (u8s 64 fun _ => 0) (u8s 64 fun _ => 0) (u8s 64 fun _ => 0) 23 23 23 23 23
  have hw0H := Lib.hid hw0.symm
  clear hw0
  go_enter Try.func38, Try.ntmps38
  go_upto_region 1 with (first | (refine wpl_alloc_arr rfl 23 rfl _ zPoly ?_))
  rw [hw0H.out]
  clear hw0H
  go_wp2_with (first | (refine wpl_load_arr rfl 23 _ rfl _ rfl _ _ hA _ _ uPoly sPoly ?_) | (refine wpl_load_arr rfl 23 _ rfl _ rfl _ _ hB _ _ uPoly sPoly ?_))
  refine (hTwo.out _).mono ?_
  rintro e w1 ⟨rfl, hn⟩
  replace hA := hA.keep hn
  replace hB := hB.keep hn
  replace hE := hE.keep hn
  replace hF := hF.keep hn
  replace hG := hG.keep hn
  replace hb := below_step hb hn
  clear hn
  clear hTwo
  cases b
  · go_wp2_with (first | (refine wpl_build_zero rfl 23 64 5 rfl _ uPoly sByte zPoly ?_) | (refine wpl_sto3 23 sPoly _ _ rfl rfl rfl _ rfl _ rfl _ hE _ _ rfl rfl rfl _ rfl _ rfl _ hF _ _ rfl rfl rfl _ rfl _ rfl _ hG (by omega) (by omega) (by omega) ?_; intro w9 hz5 hy5 hx5 _ hB5))
    exact bodyPost_ret (res_ccct rfl rfl hz5 uPoly sPoly rfl hy5 uPoly sPoly rfl hx5 uPoly sPoly rfl) rfl ⟨rfl, hB5 _ _ hb (by omega) (by omega) (by omega)⟩
  · cases z
    · have hzz := hzH.out
      have hG := hbH.out.2 rfl
      have hxH := Lib.hid (hG.p64 (f := f) (by simp) hfH.out)
      have hyH := Lib.hid (hG.p64 (f := g) (by simp) hgH.out)
      have hneH := Lib.hid (show mkp 64 f ≠ [] ∨ mkp 64 g ≠ [] from by
        cases z1
        · left; exact fun h => by have := (nil_iff h1H.out).1 h; cases this
        · cases z2
          · right; exact fun h => by have := (nil_iff h2H.out).1 h; cases this
          · cases hzz)
      clear hG
      clear hzz
      have hdv : ∀ w, Calls Try.prog 74 #[.int .i64 p, .agg (u8s 64 f), .agg (u8s 64 g)] w fun e w' => e = .returned (.tuple #[.agg (u8s 64 (cf D1)), .agg (u8s 64 (cf D2)), .agg (u8s 64 (cf D3))]) ∧ Below w.heap.size w w' := fun w => by
        have := l01Bezout_any _ _ p w hxH.out hyH.out hneH.out
        rwa [hDD.out.1, hDD.out.2.1, hDD.out.2.2, ← u8s_mkp, ← u8s_mkp] at this
      have hdvH := Lib.hid hdv
      clear hdv
      go_wp2_with (first | (refine wpl_load_arr rfl 23 _ rfl _ rfl _ _ hA _ _ uPoly sPoly ?_) | (refine wpl_load_arr rfl 23 _ rfl _ rfl _ _ hB _ _ uPoly sPoly ?_))
      refine (hdvH.out _).mono ?_
      rintro e w3 ⟨rfl, hn⟩
      replace hE := hE.keep hn
      replace hF := hF.keep hn
      replace hG := hG.keep hn
      replace hb := below_step hb hn
      clear hn
      have hgl := hG.lt
      clear hA hB
      go_wp2_with (first | (refine wpl_new3 23 zPoly sPoly _ _ rfl rfl rfl rfl rfl _ _ rfl rfl rfl rfl rfl _ _ rfl rfl rfl rfl rfl rfl _ rfl rfl _ rfl rfl _ rfl ?_; intro w4 hn hN1 hN2 hN3; replace hE := hE.keep hn; replace hF := hF.keep hn; replace hG := hG.keep hn; replace hb := below_step hb hn; clear hn))
      go_upto_region 5 with (fail)
      refine gen_region (ws := w) (w := _) (B := w.heap.size) (by kernel_rfl) (by kernel_rfl) (by kernel_rfl) (by kernel_rfl)
          (fun i => ([fun v _ => v = .agg (u8s 64 (cf D1)), fun v _ => v = .agg (u8s 64 (cf D2)), fun v _ => v = .agg (u8s 64 (cf D3)), fun _ _ => True, fun _ _ => True, fun _ _ => True, fun v _ => v = .int .i64 0] : List (Value → World → Prop)).getD i (fun _ _ => True))
          (fun i => ([true, true, true, true, true, true, true] : List Bool).getD i true)
          3 (fun k => [3, 4, 5].getD k 0) (fun k => [0, 1, 2].getD k 0) (fun k => [6, 7, 8].getD k 0) (fun k => [32, 33, 34].getD k 0) (fun k => [w.heap.size + 1 + 1, w.heap.size + 1 + 1 + 1, w.heap.size + 1 + 1 + 1 + 1].getD k 0) (fun k => [64, 64, 64].getD k 0) (fun k => [(cf D1), (cf D2), (cf D3)].getD k (fun _ => 0)) (fun k => [(fun _ => 0), (fun _ => 0), (fun _ => 0)].getD k (fun _ => 0)) (fun k => [23, 23, 23].getD k 0) hb (Nat.le_refl _)
          (fun w' => Blk w' (w3.heap.size) (u8s 64 (cf D1)) 23 ∧ Blk w' (w3.heap.size + 1) (u8s 64 (cf D2)) 23 ∧ Blk w' (w3.heap.size + 1 + 1) (u8s 64 (cf D3)) 23 ∧ True) ⟨hN1.drew, hN2.drew, hN3.drew, trivial⟩ (fun w1 w2 h hb => ⟨h.1.keep hb, h.2.1.keep hb, h.2.2.1.keep hb, trivial⟩) ?_ ?_ ?_ ?_ ?_ ?_ ?_
      · intro k hk w1 cs h
        rcases k with _|_|_|k
        · exact ⟨h.1.setRow_other (by simp only [List.getD_cons_zero, List.getD_cons_succ] <;> omega), h.2.1.setRow_other (by simp only [List.getD_cons_zero, List.getD_cons_succ] <;> omega), h.2.2.1.setRow_other (by simp only [List.getD_cons_zero, List.getD_cons_succ] <;> omega), trivial⟩
        · exact ⟨h.1.setRow_other (by simp only [List.getD_cons_zero, List.getD_cons_succ] <;> omega), h.2.1.setRow_other (by simp only [List.getD_cons_zero, List.getD_cons_succ] <;> omega), h.2.2.1.setRow_other (by simp only [List.getD_cons_zero, List.getD_cons_succ] <;> omega), trivial⟩
        · exact ⟨h.1.setRow_other (by simp only [List.getD_cons_zero, List.getD_cons_succ] <;> omega), h.2.1.setRow_other (by simp only [List.getD_cons_zero, List.getD_cons_succ] <;> omega), h.2.2.1.setRow_other (by simp only [List.getD_cons_zero, List.getD_cons_succ] <;> omega), trivial⟩
        · omega
      · intro i v w1 w2 h hb
        rcases i with _|_|_|_|_|_|_|i
        · exact h
        · exact h
        · exact h
        · exact h
        · exact h
        · exact h
        · exact h
        · exact h
      · intro k hk
        rcases k with _|_|_|k
        · kernel_rfl
        · kernel_rfl
        · kernel_rfl
        · omega
      · intro k hk
        rcases k with _|_|_|k
        · refine ⟨?_, (by kernel_rfl), hE, fun v w' h => h, by decide, ?_⟩
          · simp only [List.getD_cons_zero, List.getD_cons_succ] <;> omega
          · intro k' hk' hne
            rcases k' with _|_|_|k'
            all_goals first | omega | exact absurd rfl hne | (refine ⟨?_, by decide⟩; simp only [List.getD_cons_zero, List.getD_cons_succ]; omega)
        · refine ⟨?_, (by kernel_rfl), hF, fun v w' h => h, by decide, ?_⟩
          · simp only [List.getD_cons_zero, List.getD_cons_succ] <;> omega
          · intro k' hk' hne
            rcases k' with _|_|_|k'
            all_goals first | omega | exact absurd rfl hne | (refine ⟨?_, by decide⟩; simp only [List.getD_cons_zero, List.getD_cons_succ]; omega)
        · refine ⟨?_, (by kernel_rfl), hG, fun v w' h => h, by decide, ?_⟩
          · simp only [List.getD_cons_zero, List.getD_cons_succ] <;> omega
          · intro k' hk' hne
            rcases k' with _|_|_|k'
            all_goals first | omega | exact absurd rfl hne | (refine ⟨?_, by decide⟩; simp only [List.getD_cons_zero, List.getD_cons_succ]; omega)
        · omega
      · kernel_rfl
      · intro i o ho hz a w2 hBs hSx hBl hrd hpar
        rcases i with _|_|_|_|_|_|_|i
        · obtain rfl := Option.some.inj ho
          exact wpv_of (wp_loadB 23 _ rfl _ (hpar 11 (.pointer (some ⟨w3.heap.size, 0, none⟩)) (by kernel_rfl) (by kernel_rfl)) _ _ hSx.1 _ _ uPoly sPoly) (fun _ _ => rfl)
        · obtain rfl := Option.some.inj ho
          exact wpv_of (wp_loadB 23 _ rfl _ (hpar 12 (.pointer (some ⟨w3.heap.size + 1, 0, none⟩)) (by kernel_rfl) (by kernel_rfl)) _ _ hSx.2.1 _ _ uPoly sPoly) (fun _ _ => rfl)
        · obtain rfl := Option.some.inj ho
          exact wpv_of (wp_loadB 23 _ rfl _ (hpar 13 (.pointer (some ⟨w3.heap.size + 1 + 1, 0, none⟩)) (by kernel_rfl) (by kernel_rfl)) _ _ hSx.2.2.1 _ _ uPoly sPoly) (fun _ _ => rfl)
        · exact absurd rfl (hz 0 (by decide))
        · exact absurd rfl (hz 1 (by decide))
        · exact absurd rfl (hz 2 (by decide))
        · obtain rfl := Option.some.inj ho
          exact wpv_of (wp_assign _ (.int .i64 0) rfl rfl) (fun _ _ => rfl)
        · simp at ho
      intro vals xE hBx hSx hS0 hcs hrs
      obtain ⟨_, e0⟩ : ∃ _w : World, vals 0 = .agg (u8s 64 (cf D1)) := hcs 0 (by simp) (by decide)
      obtain ⟨_, e1⟩ : ∃ _w : World, vals 1 = .agg (u8s 64 (cf D2)) := hcs 1 (by simp) (by decide)
      obtain ⟨_, e2⟩ : ∃ _w : World, vals 2 = .agg (u8s 64 (cf D3)) := hcs 2 (by simp) (by decide)
      obtain ⟨_, e6⟩ : ∃ _w : World, vals 6 = .int .i64 0 := hcs 6 (by simp) (by decide)
      have hsE0 : Blk xE (w.heap.size + 1 + 1) (u8s 64 (cf D1)) 23 := hrs 0 (by decide)
      have hsE1 : Blk xE (w.heap.size + 1 + 1 + 1) (u8s 64 (cf D2)) 23 := hrs 1 (by decide)
      have hsE2 : Blk xE (w.heap.size + 1 + 1 + 1 + 1) (u8s 64 (cf D3)) 23 := hrs 2 (by decide)
      simp only [List.length_cons, List.length_nil, Nat.zero_add, Nat.reduceAdd, List.replicate, putAll, if_true, Act.put, List.setIfInBounds_toArray, List.set_cons_zero, List.set_cons_succ, e0, e1, e2, e6]
      replace hN1 := hSx.1
      replace hN2 := hSx.2.1
      replace hN3 := hSx.2.2.1
      clear hcs hrs hS0 hSx e0 e1 e2 e6
      go_wp2_with fail
      exact bodyPost_ret (res_ccct rfl rfl hsE0 uPoly sPoly rfl hsE1 uPoly sPoly rfl hsE2 uPoly sPoly rfl) rfl ⟨rfl, hBx⟩
    · go_wp2_with (first | (refine wpl_build_zero rfl 23 64 5 rfl _ uPoly sByte zPoly ?_) | (refine wpl_sto3 23 sPoly _ _ rfl rfl rfl _ rfl _ rfl _ hE _ _ rfl rfl rfl _ rfl _ rfl _ hF _ _ rfl rfl rfl _ rfl _ rfl _ hG (by omega) (by omega) (by omega) ?_; intro w9 hz5 hy5 hx5 _ hB5))
      exact bodyPost_ret (res_ccct rfl rfl hz5 uPoly sPoly rfl hy5 uPoly sPoly rfl hx5 uPoly sPoly rfl) rfl ⟨rfl, hB5 _ _ hb (by omega) (by omega) (by omega)⟩

set_option maxRecDepth 20000 in
set_option maxHeartbeats 2000000 in
theorem implBezoutOf_any (p : Int) (f : Nat → Int) (g : Nat → Int) (w : World) (hf : By f) (hg : By g) (b : Bool) (hb : Good p [f, g] ↔ b = true) (z1 z2 : Bool) (h1 : decide ((mkp 64 f).length = 0) = z1) (h2 : decide ((mkp 64 g).length = 0) = z2) (z : Bool) (hz : (z1 && z2) = z) :
    Calls Try.prog 39 #[.int .i64 p, .agg (u8s 64 f), .agg (u8s 64 g)] w fun e w' => e = .returned (.tuple #[.agg (u8s 64 (if b then (if z then (fun _ => 0) else cf (bez p (mkp 64 f) (mkp 64 g)).1) else fun _ => 0)), .agg (u8s 64 (if b then (if z then (fun _ => 0) else cf (bez p (mkp 64 f) (mkp 64 g)).2.1) else fun _ => 0)), .agg (u8s 64 (if b then (if z then (fun _ => 0) else cf (bez p (mkp 64 f) (mkp 64 g)).2.2) else fun _ => 0)), .int .i64 (if b then (if z then 5 else 0) else 1)]) ∧ Below w.heap.size w w' := by
  obtain ⟨D1, hD1⟩ : ∃ M, (bez p (mkp 64 f) (mkp 64 g)).1 = M := ⟨_, rfl⟩
  obtain ⟨D2, hD2⟩ : ∃ M, (bez p (mkp 64 f) (mkp 64 g)).2.1 = M := ⟨_, rfl⟩
  obtain ⟨D3, hD3⟩ : ∃ M, (bez p (mkp 64 f) (mkp 64 g)).2.2 = M := ⟨_, rfl⟩
  rw [hD1, hD2, hD3]
  have hDD := Lib.hid (And.intro hD1 (And.intro hD2 hD3))
  have h1H := Lib.hid h1
  have h2H := Lib.hid h2
  have hzH := Lib.hid hz
  clear hD1 hD2 hD3 h1 h2 hz
  have hfH := Lib.hid hf
  have hgH := Lib.hid hg
  have hbH := Lib.hid hb
  clear hf hg hb
  obtain ⟨w0, hw0, hb, hA, hB, hE, hF, hG⟩ := boxes5 w (u8s 64 f) (u8s 64 g) (u8s 64 fun _ => 0) (u8s 64 fun _ => 0) (u8s 64 fun _ => 0) 23 23 23 23 23
  have hw0H := Lib.hid hw0.symm
  clear hw0
  go_enter Try.func39, Try.ntmps39
  go_upto_region 1 with (first | (refine wpl_alloc_arr rfl 23 rfl _ zPoly ?_))
  rw [hw0H.out]
  clear hw0H
  go_wp2_with (first | (refine wpl_load_arr rfl 23 _ rfl _ rfl _ _ hA _ _ uPoly sPoly ?_) | (refine wpl_load_arr rfl 23 _ rfl _ rfl _ _ hB _ _ uPoly sPoly ?_) | (refine wpl_buildSlice_polys rfl 83 23 2 _ rfl Try.underlying83 sPoly zPoly [f, g] rfl (by decide) (by decide) rfl ?_))
  refine (polysCode_lit [f, g] 2 128 rfl rfl (by omega) p _ _ _ (Blk.newAt (by simp) _ _) (by2 hfH.out hgH.out) b hbH.out).mono ?_
  rintro e w1 ⟨rfl, hb1⟩
  replace hb := below_step hb (below_step (below_new _ _) hb1)
  replace hA := (hA.alloc _).keep hb1
  replace hB := (hB.alloc _).keep hb1
  replace hE := (hE.alloc _).keep hb1
  replace hF := (hF.alloc _).keep hb1
  replace hG := (hG.alloc _).keep hb1
  clear hb1
  cases b
  · go_wp2_with (first | (refine wpl_build_zero rfl 23 64 5 rfl _ uPoly sByte zPoly ?_) | (refine wpl_sto3 23 sPoly _ _ rfl rfl rfl _ rfl _ rfl _ hE _ _ rfl rfl rfl _ rfl _ rfl _ hF _ _ rfl rfl rfl _ rfl _ rfl _ hG (by omega) (by omega) (by omega) ?_; intro w9 hz5 hy5 hx5 _ hB5))
    exact bodyPost_ret (res_ccct rfl rfl hz5 uPoly sPoly rfl hy5 uPoly sPoly rfl hx5 uPoly sPoly rfl) rfl ⟨rfl, hB5 _ _ hb (by omega) (by omega) (by omega)⟩
  · cases z
    · have hzz := hzH.out
      have hG := hbH.out.2 rfl
      have hxH := Lib.hid (hG.p64 (f := f) (by simp) hfH.out)
      have hyH := Lib.hid (hG.p64 (f := g) (by simp) hgH.out)
      have hneH := Lib.hid (show mkp 64 f ≠ [] ∨ mkp 64 g ≠ [] from by
        cases z1
        · left; exact fun h => by have := (nil_iff h1H.out).1 h; cases this
        · cases z2
          · right; exact fun h => by have := (nil_iff h2H.out).1 h; cases this
          · cases hzz)
      clear hG
      have hq := bez_P64 hxH.out hyH.out hneH.out
      rw [hDD.out.1, hDD.out.2.1, hDD.out.2.2] at hq
      have hqH := Lib.hid hq
      clear hzz hq
      have hbz : ∀ (va vb : Value) (w : World), IsRow w va (mkp 64 f) → IsRow w vb (mkp 64 g) → Calls Try.prog 75 #[.int .i64 p, va, vb] w fun e w' => ∃ v, e = .returned v ∧ (∃ v1 v2 v3, v = .tuple #[v1, v2, v3] ∧ IsRow w' v1 D1 ∧ IsRow w' v2 D2 ∧ IsRow w' v3 D3) ∧ Below w.heap.size w w' := fun va vb w ha hb => by
        have := bezout_any va vb _ _ p w hxH.out.pr ha hb hxH.out.po hyH.out.po hneH.out hxH.out.le hyH.out.le
        rw [hDD.out.1, hDD.out.2.1, hDD.out.2.2] at this
        exact this.mono fun _ _ ⟨v1, v2, v3, k1, k2, k3, k4, k5⟩ => ⟨_, k1, ⟨v1, v2, v3, rfl, k2, k3, k4⟩, k5⟩
      have hbzH := Lib.hid hbz
      clear hbz
      cases z1
      · go_upto_region 6 with ((with_reducible refine wpl_guard ?_); first | (refine wpl_build_zero (wanted_none rfl) 23 64 5 rfl _ uPoly sByte zPoly ?_) | (refine wpl_eql_arr (wanted_none rfl) 23 _ _ _ rfl 64 .u8 f (fun _ => 0) 5 rfl rfl uPoly uByte sByte gPoly _ (mkp_zero_dec f h1H.out) ?_) | (refine wpl_load_arr (wanted_none rfl) 23 _ rfl _ rfl _ _ hA _ _ uPoly sPoly ?_) | (refine wpl_load_arr (wanted_none rfl) 23 _ rfl _ rfl _ _ hB _ _ uPoly sPoly ?_))
        refine gen_region (ws := w) (w := _) (B := w.heap.size) (by kernel_rfl) (by kernel_rfl) (by kernel_rfl) (by kernel_rfl)
            (fun i => ([fun v _ => v = .int .i64 p, fun v _ => v = .agg (u8s 64 f), fun v w => IsRow w v (mkp 64 f), fun v _ => v = .agg (u8s 64 g), fun v w => IsRow w v (mkp 64 g), fun v w => ∃ v1 v2 v3, v = .tuple #[v1, v2, v3] ∧ IsRow w v1 (D1) ∧ IsRow w v2 (D2) ∧ IsRow w v3 (D3), fun v w => ∃ v1 v2 v3, v = .tuple #[v1, v2, v3] ∧ IsRow w v1 (D1) ∧ IsRow w v2 (D2) ∧ IsRow w v3 (D3), fun v w => IsRow w v (D1), fun v w => IsRow w v (D2), fun v w => IsRow w v (D3), fun v w => IsRow w v (D1), fun v w => IsRow w v (D2), fun v w => IsRow w v (D3)] : List (Value → World → Prop)).getD i (fun _ _ => True))
            (fun i => ([true, true, false, true, false, false, false, false, false, false, false, false, false] : List Bool).getD i true)
            0 (fun k => [].getD k 0) (fun k => [].getD k 0) (fun k => [].getD k 0) (fun k => [].getD k 0) (fun k => [].getD k 0) (fun k => [].getD k 0) (fun k => [].getD k (fun _ => 0)) (fun k => [].getD k (fun _ => 0)) (fun k => [].getD k 0) hb (Nat.le_refl _)
            (fun w' => Blk w' (w.heap.size) (u8s 64 f) 23 ∧ Blk w' (w.heap.size + 1) (u8s 64 g) 23 ∧ True) ⟨hA.drew, hB.drew, trivial⟩ (fun w1 w2 h hb => ⟨h.1.keep hb, h.2.1.keep hb, trivial⟩) ?_ ?_ ?_ ?_ ?_ ?_ ?_
        · exact fun k hk => absurd hk (by omega)
        · intro i v w1 w2 h hb
          rcases i with _|_|_|_|_|_|_|_|_|_|_|_|_|i
          · exact h
          · exact h
          · exact (show IsRow w1 v (mkp 64 f) from h).below hb
          · exact h
          · exact (show IsRow w1 v (mkp 64 g) from h).below hb
          · obtain ⟨v1, v2, v3, e, h1, h2, h3⟩ := h; exact ⟨v1, v2, v3, e, h1.below hb, h2.below hb, h3.below hb⟩
          · obtain ⟨v1, v2, v3, e, h1, h2, h3⟩ := h; exact ⟨v1, v2, v3, e, h1.below hb, h2.below hb, h3.below hb⟩
          · exact (show IsRow w1 v (D1) from h).below hb
          · exact (show IsRow w1 v (D2) from h).below hb
          · exact (show IsRow w1 v (D3) from h).below hb
          · exact (show IsRow w1 v (D1) from h).below hb
          · exact (show IsRow w1 v (D2) from h).below hb
          · exact (show IsRow w1 v (D3) from h).below hb
          · exact h
        · exact fun k hk => absurd hk (by omega)
        · exact fun k hk => absurd hk (by omega)
        · kernel_rfl
        · intro i o ho hz a w2 hBs hSx hBl hrd hpar
          rcases i with _|_|_|_|_|_|_|_|_|_|_|_|_|i
          · obtain rfl := Option.some.inj ho
            have e0 : a.eval (.tmp 0) = .int .i64 p := hpar 0 _ (by kernel_rfl) (by kernel_rfl)
            exact wpv_of (wp_move _ _ rfl e0) (fun _ _ => rfl)
          · obtain rfl := Option.some.inj ho
            exact wpv_of (wp_loadB 23 _ rfl _ (hpar 4 (.pointer (some ⟨w.heap.size, 0, none⟩)) (by kernel_rfl) (by kernel_rfl)) _ _ hSx.1 _ _ uPoly sPoly) (fun _ _ => rfl)
          · obtain rfl := Option.some.inj ho
            obtain ⟨_, e38⟩ : ∃ _w : World, a.eval (.tmp 38) = .agg (u8s 64 f) := (hrd 1 _ 38 rfl rfl (by kernel_rfl) (by kernel_rfl) (by decide)).1
            exact wpv_call 49 [.tmp 38] _ rfl [.agg (u8s 64 f)] (by simp only [List.map_cons, List.map_nil, e38]) Try.call49 (rowOf_any f w2 hfH.out.on)
          · obtain rfl := Option.some.inj ho
            exact wpv_of (wp_loadB 23 _ rfl _ (hpar 5 (.pointer (some ⟨w.heap.size + 1, 0, none⟩)) (by kernel_rfl) (by kernel_rfl)) _ _ hSx.2.1 _ _ uPoly sPoly) (fun _ _ => rfl)
          · obtain rfl := Option.some.inj ho
            obtain ⟨_, e40⟩ : ∃ _w : World, a.eval (.tmp 40) = .agg (u8s 64 g) := (hrd 3 _ 40 rfl rfl (by kernel_rfl) (by kernel_rfl) (by decide)).1
            exact wpv_call 49 [.tmp 40] _ rfl [.agg (u8s 64 g)] (by simp only [List.map_cons, List.map_nil, e40]) Try.call49 (rowOf_any g w2 hgH.out.on)
          · obtain rfl := Option.some.inj ho
            obtain ⟨_, e37⟩ : ∃ _w : World, a.eval (.tmp 37) = .int .i64 p := (hrd 0 _ 37 rfl rfl (by kernel_rfl) (by kernel_rfl) (by decide)).1
            have h39 : (fun v w => IsRow w v (mkp 64 f)) (a.eval (.tmp 39)) w2 := (hrd 2 _ 39 rfl rfl (by kernel_rfl) (by kernel_rfl) (by decide)).2 rfl
            generalize e39 : a.eval (.tmp 39) = v39 at h39
            have h41 : (fun v w => IsRow w v (mkp 64 g)) (a.eval (.tmp 41)) w2 := (hrd 4 _ 41 rfl rfl (by kernel_rfl) (by kernel_rfl) (by decide)).2 rfl
            generalize e41 : a.eval (.tmp 41) = v41 at h41
            exact wpv_call 75 [.tmp 37, .tmp 39, .tmp 41] _ rfl [.int .i64 p, v39, v41] (by simp only [List.map_cons, List.map_nil, e37, e39, e41]) Try.call75 (hbzH.out _ _ w2 h39 h41)
          · obtain rfl := Option.some.inj ho
            have h42 : (fun v w => ∃ v1 v2 v3, v = .tuple #[v1, v2, v3] ∧ IsRow w v1 (D1) ∧ IsRow w v2 (D2) ∧ IsRow w v3 (D3)) (a.eval (.tmp 42)) w2 := (hrd 5 _ 42 rfl rfl (by kernel_rfl) (by kernel_rfl) (by decide)).2 rfl
            generalize e42 : a.eval (.tmp 42) = v42 at h42
            exact wpv_of (wp_move _ _ rfl e42) (fun w' hb => by have h := h42; obtain ⟨v1, v2, v3, e, h1, h2, h3⟩ := h; exact ⟨v1, v2, v3, e, h1.below hb, h2.below hb, h3.below hb⟩)
          · obtain rfl := Option.some.inj ho
            have h36 : (fun v w => ∃ v1 v2 v3, v = .tuple #[v1, v2, v3] ∧ IsRow w v1 (D1) ∧ IsRow w v2 (D2) ∧ IsRow w v3 (D3)) (a.eval (.tmp 36)) w2 := (hrd 6 _ 36 rfl rfl (by kernel_rfl) (by kernel_rfl) (by decide)).2 rfl
            generalize e36 : a.eval (.tmp 36) = v36 at h36
            obtain ⟨q1, q2, q3, eq, k1, k2, k3⟩ := h36
            exact wpv_of (wp_extract _ 0 #[q1, q2, q3] _ rfl (e36.trans eq) rfl) (fun w' hb => k1.below hb)
          · obtain rfl := Option.some.inj ho
            have h36 : (fun v w => ∃ v1 v2 v3, v = .tuple #[v1, v2, v3] ∧ IsRow w v1 (D1) ∧ IsRow w v2 (D2) ∧ IsRow w v3 (D3)) (a.eval (.tmp 36)) w2 := (hrd 6 _ 36 rfl rfl (by kernel_rfl) (by kernel_rfl) (by decide)).2 rfl
            generalize e36 : a.eval (.tmp 36) = v36 at h36
            obtain ⟨q1, q2, q3, eq, k1, k2, k3⟩ := h36
            exact wpv_of (wp_extract _ 1 #[q1, q2, q3] _ rfl (e36.trans eq) rfl) (fun w' hb => k2.below hb)
          · obtain rfl := Option.some.inj ho
            have h36 : (fun v w => ∃ v1 v2 v3, v = .tuple #[v1, v2, v3] ∧ IsRow w v1 (D1) ∧ IsRow w v2 (D2) ∧ IsRow w v3 (D3)) (a.eval (.tmp 36)) w2 := (hrd 6 _ 36 rfl rfl (by kernel_rfl) (by kernel_rfl) (by decide)).2 rfl
            generalize e36 : a.eval (.tmp 36) = v36 at h36
            obtain ⟨q1, q2, q3, eq, k1, k2, k3⟩ := h36
            exact wpv_of (wp_extract _ 2 #[q1, q2, q3] _ rfl (e36.trans eq) rfl) (fun w' hb => k3.below hb)
          · obtain rfl := Option.some.inj ho
            have h43 : (fun v w => IsRow w v (D1)) (a.eval (.tmp 43)) w2 := (hrd 7 _ 43 rfl rfl (by kernel_rfl) (by kernel_rfl) (by decide)).2 rfl
            generalize e43 : a.eval (.tmp 43) = v43 at h43
            exact wpv_of (wp_assign _ _ rfl e43) (fun w' hb => h43.below hb)
          · obtain rfl := Option.some.inj ho
            have h44 : (fun v w => IsRow w v (D2)) (a.eval (.tmp 44)) w2 := (hrd 8 _ 44 rfl rfl (by kernel_rfl) (by kernel_rfl) (by decide)).2 rfl
            generalize e44 : a.eval (.tmp 44) = v44 at h44
            exact wpv_of (wp_assign _ _ rfl e44) (fun w' hb => h44.below hb)
          · obtain rfl := Option.some.inj ho
            have h45 : (fun v w => IsRow w v (D3)) (a.eval (.tmp 45)) w2 := (hrd 9 _ 45 rfl rfl (by kernel_rfl) (by kernel_rfl) (by decide)).2 rfl
            generalize e45 : a.eval (.tmp 45) = v45 at h45
            exact wpv_of (wp_assign _ _ rfl e45) (fun w' hb => h45.below hb)
          · simp at ho
        intro vals xE hBx hSx hS0 hcs hrs
        obtain ⟨hBl, hc0⟩ := hS0 rfl
        have e0 : vals 0 = .int .i64 p := hc0 0 (by simp)
        have e1 : vals 1 = .agg (u8s 64 f) := hc0 1 (by simp)
        have cE2 : (fun v w => IsRow w v (mkp 64 f)) (vals 2) xE := hc0 2 (by simp)
        generalize ev2 : vals 2 = uE2 at cE2
        have e3 : vals 3 = .agg (u8s 64 g) := hc0 3 (by simp)
        have cE4 : (fun v w => IsRow w v (mkp 64 g)) (vals 4) xE := hc0 4 (by simp)
        generalize ev4 : vals 4 = uE4 at cE4
        have cE5 : (fun v w => ∃ v1 v2 v3, v = .tuple #[v1, v2, v3] ∧ IsRow w v1 (D1) ∧ IsRow w v2 (D2) ∧ IsRow w v3 (D3)) (vals 5) xE := hc0 5 (by simp)
        generalize ev5 : vals 5 = uE5 at cE5
        have cE6 : (fun v w => ∃ v1 v2 v3, v = .tuple #[v1, v2, v3] ∧ IsRow w v1 (D1) ∧ IsRow w v2 (D2) ∧ IsRow w v3 (D3)) (vals 6) xE := hc0 6 (by simp)
        generalize ev6 : vals 6 = uE6 at cE6
        have cE7 : (fun v w => IsRow w v (D1)) (vals 7) xE := hc0 7 (by simp)
        generalize ev7 : vals 7 = uE7 at cE7
        have cE8 : (fun v w => IsRow w v (D2)) (vals 8) xE := hc0 8 (by simp)
        generalize ev8 : vals 8 = uE8 at cE8
        have cE9 : (fun v w => IsRow w v (D3)) (vals 9) xE := hc0 9 (by simp)
        generalize ev9 : vals 9 = uE9 at cE9
        have cE10 : (fun v w => IsRow w v (D1)) (vals 10) xE := hc0 10 (by simp)
        generalize ev10 : vals 10 = uE10 at cE10
        have cE11 : (fun v w => IsRow w v (D2)) (vals 11) xE := hc0 11 (by simp)
        generalize ev11 : vals 11 = uE11 at cE11
        have cE12 : (fun v w => IsRow w v (D3)) (vals 12) xE := hc0 12 (by simp)
        generalize ev12 : vals 12 = uE12 at cE12
        simp only [List.length_cons, List.length_nil, Nat.zero_add, Nat.reduceAdd, List.replicate, putAll, if_true, Act.put, List.setIfInBounds_toArray, List.set_cons_zero, List.set_cons_succ, e0, e1, ev2, e3, ev4, ev5, ev6, ev7, ev8, ev9, ev10, ev11, ev12]
        replace hE := hE.keep hBl
        replace hF := hF.keep hBl
        replace hG := hG.keep hBl
        replace hA := hSx.1
        replace hB := hSx.2.1
        clear hcs hrs hS0 hSx e0 e1 ev2 e3 ev4 ev5 ev6 ev7 ev8 ev9 ev10 ev11 ev12 hc0
        clear hA hB hBl hb
        have k1 := Lib.hid cE10
        have k2 := Lib.hid cE11
        have k3 := Lib.hid cE12
        clear cE2 cE4 cE5 cE6 cE7 cE8 cE9 cE10 cE11 cE12
        go_wp2_with fail
        refine (poly_any _ _ _ k1.out (fun i => P64.by hqH.out.1 i) (P64.le hqH.out.1)).mono ?_
        rintro e y1 ⟨rfl, hn⟩
        replace hE := hE.keep hn
        replace hF := hF.keep hn
        replace hG := hG.keep hn
        replace hBx := below_step hBx hn
        replace k2 := Lib.hid (k2.out.below hn)
        replace k3 := Lib.hid (k3.out.below hn)
        clear hn
        go_wp2_with fail
        refine (poly_any _ _ _ k2.out (fun i => P64.by hqH.out.2.1 i) (P64.le hqH.out.2.1)).mono ?_
        rintro e y2 ⟨rfl, hn⟩
        replace hE := hE.keep hn
        replace hF := hF.keep hn
        replace hG := hG.keep hn
        replace hBx := below_step hBx hn
        replace k3 := Lib.hid (k3.out.below hn)
        clear hn
        go_wp2_with fail
        refine (poly_any _ _ _ k3.out (fun i => P64.by hqH.out.2.2 i) (P64.le hqH.out.2.2)).mono ?_
        rintro e y3 ⟨rfl, hn⟩
        replace hE := hE.keep hn
        replace hF := hF.keep hn
        replace hG := hG.keep hn
        replace hBx := below_step hBx hn
        clear hn
        go_wp2_with (first | (refine wpl_sto3 23 sPoly _ _ rfl rfl rfl _ rfl _ rfl _ hE _ _ rfl rfl rfl _ rfl _ rfl _ hF _ _ rfl rfl rfl _ rfl _ rfl _ hG (by omega) (by omega) (by omega) ?_; intro w9 hz5 hy5 hx5 _ hB5))
        exact bodyPost_ret (res_ccct rfl rfl hz5 uPoly sPoly rfl hy5 uPoly sPoly rfl hx5 uPoly sPoly rfl) rfl ⟨rfl, hB5 _ _ hBx (by omega) (by omega) (by omega)⟩
      · cases z2
        · go_upto_region 6 with ((with_reducible refine wpl_guard ?_); first | (refine wpl_load_arr rfl 23 _ rfl _ rfl _ _ hA _ _ uPoly sPoly ?_) | (refine wpl_load_arr rfl 23 _ rfl _ rfl _ _ hB _ _ uPoly sPoly ?_) | (refine wpl_build_zero rfl 23 64 5 rfl _ uPoly sByte zPoly ?_) | (refine wpl_eql_arr rfl 23 _ _ _ rfl 64 .u8 f (fun _ => 0) 5 rfl rfl uPoly uByte sByte gPoly _ (mkp_zero_dec f h1H.out) ?_) | (refine wpl_eql_arr rfl 23 _ _ _ rfl 64 .u8 g (fun _ => 0) 5 rfl rfl uPoly uByte sByte gPoly _ (mkp_zero_dec g h2H.out) ?_))
          refine gen_region (ws := w) (w := _) (B := w.heap.size) (by kernel_rfl) (by kernel_rfl) (by kernel_rfl) (by kernel_rfl)
              (fun i => ([fun v _ => v = .int .i64 p, fun v _ => v = .agg (u8s 64 f), fun v w => IsRow w v (mkp 64 f), fun v _ => v = .agg (u8s 64 g), fun v w => IsRow w v (mkp 64 g), fun v w => ∃ v1 v2 v3, v = .tuple #[v1, v2, v3] ∧ IsRow w v1 (D1) ∧ IsRow w v2 (D2) ∧ IsRow w v3 (D3), fun v w => ∃ v1 v2 v3, v = .tuple #[v1, v2, v3] ∧ IsRow w v1 (D1) ∧ IsRow w v2 (D2) ∧ IsRow w v3 (D3), fun v w => IsRow w v (D1), fun v w => IsRow w v (D2), fun v w => IsRow w v (D3), fun v w => IsRow w v (D1), fun v w => IsRow w v (D2), fun v w => IsRow w v (D3)] : List (Value → World → Prop)).getD i (fun _ _ => True))
              (fun i => ([true, true, false, true, false, false, false, false, false, false, false, false, false] : List Bool).getD i true)
              0 (fun k => [].getD k 0) (fun k => [].getD k 0) (fun k => [].getD k 0) (fun k => [].getD k 0) (fun k => [].getD k 0) (fun k => [].getD k 0) (fun k => [].getD k (fun _ => 0)) (fun k => [].getD k (fun _ => 0)) (fun k => [].getD k 0) hb (Nat.le_refl _)
              (fun w' => Blk w' (w.heap.size) (u8s 64 f) 23 ∧ Blk w' (w.heap.size + 1) (u8s 64 g) 23 ∧ True) ⟨hA.drew, hB.drew, trivial⟩ (fun w1 w2 h hb => ⟨h.1.keep hb, h.2.1.keep hb, trivial⟩) ?_ ?_ ?_ ?_ ?_ ?_ ?_
          · exact fun k hk => absurd hk (by omega)
          · intro i v w1 w2 h hb
            rcases i with _|_|_|_|_|_|_|_|_|_|_|_|_|i
            · exact h
            · exact h
            · exact (show IsRow w1 v (mkp 64 f) from h).below hb
            · exact h
            · exact (show IsRow w1 v (mkp 64 g) from h).below hb
            · obtain ⟨v1, v2, v3, e, h1, h2, h3⟩ := h; exact ⟨v1, v2, v3, e, h1.below hb, h2.below hb, h3.below hb⟩
            · obtain ⟨v1, v2, v3, e, h1, h2, h3⟩ := h; exact ⟨v1, v2, v3, e, h1.below hb, h2.below hb, h3.below hb⟩
            · exact (show IsRow w1 v (D1) from h).below hb
            · exact (show IsRow w1 v (D2) from h).below hb
            · exact (show IsRow w1 v (D3) from h).below hb
            · exact (show IsRow w1 v (D1) from h).below hb
            · exact (show IsRow w1 v (D2) from h).below hb
            · exact (show IsRow w1 v (D3) from h).below hb
            · exact h
          · exact fun k hk => absurd hk (by omega)
          · exact fun k hk => absurd hk (by omega)
          · kernel_rfl
          · intro i o ho hz a w2 hBs hSx hBl hrd hpar
            rcases i with _|_|_|_|_|_|_|_|_|_|_|_|_|i
            · obtain rfl := Option.some.inj ho
              have e0 : a.eval (.tmp 0) = .int .i64 p := hpar 0 _ (by kernel_rfl) (by kernel_rfl)
              exact wpv_of (wp_move _ _ rfl e0) (fun _ _ => rfl)
            · obtain rfl := Option.some.inj ho
              exact wpv_of (wp_loadB 23 _ rfl _ (hpar 4 (.pointer (some ⟨w.heap.size, 0, none⟩)) (by kernel_rfl) (by kernel_rfl)) _ _ hSx.1 _ _ uPoly sPoly) (fun _ _ => rfl)
            · obtain rfl := Option.some.inj ho
              obtain ⟨_, e38⟩ : ∃ _w : World, a.eval (.tmp 38) = .agg (u8s 64 f) := (hrd 1 _ 38 rfl rfl (by kernel_rfl) (by kernel_rfl) (by decide)).1
              exact wpv_call 49 [.tmp 38] _ rfl [.agg (u8s 64 f)] (by simp only [List.map_cons, List.map_nil, e38]) Try.call49 (rowOf_any f w2 hfH.out.on)
            · obtain rfl := Option.some.inj ho
              exact wpv_of (wp_loadB 23 _ rfl _ (hpar 5 (.pointer (some ⟨w.heap.size + 1, 0, none⟩)) (by kernel_rfl) (by kernel_rfl)) _ _ hSx.2.1 _ _ uPoly sPoly) (fun _ _ => rfl)
            · obtain rfl := Option.some.inj ho
              obtain ⟨_, e40⟩ : ∃ _w : World, a.eval (.tmp 40) = .agg (u8s 64 g) := (hrd 3 _ 40 rfl rfl (by kernel_rfl) (by kernel_rfl) (by decide)).1
              exact wpv_call 49 [.tmp 40] _ rfl [.agg (u8s 64 g)] (by simp only [List.map_cons, List.map_nil, e40]) Try.call49 (rowOf_any g w2 hgH.out.on)
            · obtain rfl := Option.some.inj ho
              obtain ⟨_, e37⟩ : ∃ _w : World, a.eval (.tmp 37) = .int .i64 p := (hrd 0 _ 37 rfl rfl (by kernel_rfl) (by kernel_rfl) (by decide)).1
              have h39 : (fun v w => IsRow w v (mkp 64 f)) (a.eval (.tmp 39)) w2 := (hrd 2 _ 39 rfl rfl (by kernel_rfl) (by kernel_rfl) (by decide)).2 rfl
              generalize e39 : a.eval (.tmp 39) = v39 at h39
              have h41 : (fun v w => IsRow w v (mkp 64 g)) (a.eval (.tmp 41)) w2 := (hrd 4 _ 41 rfl rfl (by kernel_rfl) (by kernel_rfl) (by decide)).2 rfl
              generalize e41 : a.eval (.tmp 41) = v41 at h41
              exact wpv_call 75 [.tmp 37, .tmp 39, .tmp 41] _ rfl [.int .i64 p, v39, v41] (by simp only [List.map_cons, List.map_nil, e37, e39, e41]) Try.call75 (hbzH.out _ _ w2 h39 h41)
            · obtain rfl := Option.some.inj ho
              have h42 : (fun v w => ∃ v1 v2 v3, v = .tuple #[v1, v2, v3] ∧ IsRow w v1 (D1) ∧ IsRow w v2 (D2) ∧ IsRow w v3 (D3)) (a.eval (.tmp 42)) w2 := (hrd 5 _ 42 rfl rfl (by kernel_rfl) (by kernel_rfl) (by decide)).2 rfl
              generalize e42 : a.eval (.tmp 42) = v42 at h42
              exact wpv_of (wp_move _ _ rfl e42) (fun w' hb => by have h := h42; obtain ⟨v1, v2, v3, e, h1, h2, h3⟩ := h; exact ⟨v1, v2, v3, e, h1.below hb, h2.below hb, h3.below hb⟩)
            · obtain rfl := Option.some.inj ho
              have h36 : (fun v w => ∃ v1 v2 v3, v = .tuple #[v1, v2, v3] ∧ IsRow w v1 (D1) ∧ IsRow w v2 (D2) ∧ IsRow w v3 (D3)) (a.eval (.tmp 36)) w2 := (hrd 6 _ 36 rfl rfl (by kernel_rfl) (by kernel_rfl) (by decide)).2 rfl
              generalize e36 : a.eval (.tmp 36) = v36 at h36
              obtain ⟨q1, q2, q3, eq, k1, k2, k3⟩ := h36
              exact wpv_of (wp_extract _ 0 #[q1, q2, q3] _ rfl (e36.trans eq) rfl) (fun w' hb => k1.below hb)
            · obtain rfl := Option.some.inj ho
              have h36 : (fun v w => ∃ v1 v2 v3, v = .tuple #[v1, v2, v3] ∧ IsRow w v1 (D1) ∧ IsRow w v2 (D2) ∧ IsRow w v3 (D3)) (a.eval (.tmp 36)) w2 := (hrd 6 _ 36 rfl rfl (by kernel_rfl) (by kernel_rfl) (by decide)).2 rfl
              generalize e36 : a.eval (.tmp 36) = v36 at h36
              obtain ⟨q1, q2, q3, eq, k1, k2, k3⟩ := h36
              exact wpv_of (wp_extract _ 1 #[q1, q2, q3] _ rfl (e36.trans eq) rfl) (fun w' hb => k2.below hb)
            · obtain rfl := Option.some.inj ho
              have h36 : (fun v w => ∃ v1 v2 v3, v = .tuple #[v1, v2, v3] ∧ IsRow w v1 (D1) ∧ IsRow w v2 (D2) ∧ IsRow w v3 (D3)) (a.eval (.tmp 36)) w2 := (hrd 6 _ 36 rfl rfl (by kernel_rfl) (by kernel_rfl) (by decide)).2 rfl
              generalize e36 : a.eval (.tmp 36) = v36 at h36
              obtain ⟨q1, q2, q3, eq, k1, k2, k3⟩ := h36
              exact wpv_of (wp_extract _ 2 #[q1, q2, q3] _ rfl (e36.trans eq) rfl) (fun w' hb => k3.below hb)
            · obtain rfl := Option.some.inj ho
              have h43 : (fun v w => IsRow w v (D1)) (a.eval (.tmp 43)) w2 := (hrd 7 _ 43 rfl rfl (by kernel_rfl) (by kernel_rfl) (by decide)).2 rfl
              generalize e43 : a.eval (.tmp 43) = v43 at h43
              exact wpv_of (wp_assign _ _ rfl e43) (fun w' hb => h43.below hb)
            · obtain rfl := Option.some.inj ho
              have h44 : (fun v w => IsRow w v (D2)) (a.eval (.tmp 44)) w2 := (hrd 8 _ 44 rfl rfl (by kernel_rfl) (by kernel_rfl) (by decide)).2 rfl
              generalize e44 : a.eval (.tmp 44) = v44 at h44
              exact wpv_of (wp_assign _ _ rfl e44) (fun w' hb => h44.below hb)
            · obtain rfl := Option.some.inj ho
              have h45 : (fun v w => IsRow w v (D3)) (a.eval (.tmp 45)) w2 := (hrd 9 _ 45 rfl rfl (by kernel_rfl) (by kernel_rfl) (by decide)).2 rfl
              generalize e45 : a.eval (.tmp 45) = v45 at h45
              exact wpv_of (wp_assign _ _ rfl e45) (fun w' hb => h45.below hb)
            · simp at ho
          intro vals xE hBx hSx hS0 hcs hrs
          obtain ⟨hBl, hc0⟩ := hS0 rfl
          have e0 : vals 0 = .int .i64 p := hc0 0 (by simp)
          have e1 : vals 1 = .agg (u8s 64 f) := hc0 1 (by simp)
          have cE2 : (fun v w => IsRow w v (mkp 64 f)) (vals 2) xE := hc0 2 (by simp)
          generalize ev2 : vals 2 = uE2 at cE2
          have e3 : vals 3 = .agg (u8s 64 g) := hc0 3 (by simp)
          have cE4 : (fun v w => IsRow w v (mkp 64 g)) (vals 4) xE := hc0 4 (by simp)
          generalize ev4 : vals 4 = uE4 at cE4
          have cE5 : (fun v w => ∃ v1 v2 v3, v = .tuple #[v1, v2, v3] ∧ IsRow w v1 (D1) ∧ IsRow w v2 (D2) ∧ IsRow w v3 (D3)) (vals 5) xE := hc0 5 (by simp)
          generalize ev5 : vals 5 = uE5 at cE5
          have cE6 : (fun v w => ∃ v1 v2 v3, v = .tuple #[v1, v2, v3] ∧ IsRow w v1 (D1) ∧ IsRow w v2 (D2) ∧ IsRow w v3 (D3)) (vals 6) xE := hc0 6 (by simp)
          generalize ev6 : vals 6 = uE6 at cE6
          have cE7 : (fun v w => IsRow w v (D1)) (vals 7) xE := hc0 7 (by simp)
          generalize ev7 : vals 7 = uE7 at cE7
          have cE8 : (fun v w => IsRow w v (D2)) (vals 8) xE := hc0 8 (by simp)
          generalize ev8 : vals 8 = uE8 at cE8
          have cE9 : (fun v w => IsRow w v (D3)) (vals 9) xE := hc0 9 (by simp)
          generalize ev9 : vals 9 = uE9 at cE9
          have cE10 : (fun v w => IsRow w v (D1)) (vals 10) xE := hc0 10 (by simp)
          generalize ev10 : vals 10 = uE10 at cE10
          have cE11 : (fun v w => IsRow w v (D2)) (vals 11) xE := hc0 11 (by simp)
          generalize ev11 : vals 11 = uE11 at cE11
          have cE12 : (fun v w => IsRow w v (D3)) (vals 12) xE := hc0 12 (by simp)
          generalize ev12 : vals 12 = uE12 at cE12
          simp only [List.length_cons, List.length_nil, Nat.zero_add, Nat.reduceAdd, List.replicate, putAll, if_true, Act.put, List.setIfInBounds_toArray, List.set_cons_zero, List.set_cons_succ, e0, e1, ev2, e3, ev4, ev5, ev6, ev7, ev8, ev9, ev10, ev11, ev12]
          replace hE := hE.keep hBl
          replace hF := hF.keep hBl
          replace hG := hG.keep hBl
          replace hA := hSx.1
          replace hB := hSx.2.1
          clear hcs hrs hS0 hSx e0 e1 ev2 e3 ev4 ev5 ev6 ev7 ev8 ev9 ev10 ev11 ev12 hc0
          clear hA hB hBl hb
          have k1 := Lib.hid cE10
          have k2 := Lib.hid cE11
          have k3 := Lib.hid cE12
          clear cE2 cE4 cE5 cE6 cE7 cE8 cE9 cE10 cE11 cE12
          go_wp2_with fail
          refine (poly_any _ _ _ k1.out (fun i => P64.by hqH.out.1 i) (P64.le hqH.out.1)).mono ?_
          rintro e y1 ⟨rfl, hn⟩
          replace hE := hE.keep hn
          replace hF := hF.keep hn
          replace hG := hG.keep hn
          replace hBx := below_step hBx hn
          replace k2 := Lib.hid (k2.out.below hn)
          replace k3 := Lib.hid (k3.out.below hn)
          clear hn
          go_wp2_with fail
          refine (poly_any _ _ _ k2.out (fun i => P64.by hqH.out.2.1 i) (P64.le hqH.out.2.1)).mono ?_
          rintro e y2 ⟨rfl, hn⟩
          replace hE := hE.keep hn
          replace hF := hF.keep hn
          replace hG := hG.keep hn
          replace hBx := below_step hBx hn
          replace k3 := Lib.hid (k3.out.below hn)
          clear hn
          go_wp2_with fail
          refine (poly_any _ _ _ k3.out (fun i => P64.by hqH.out.2.2 i) (P64.le hqH.out.2.2)).mono ?_
          rintro e y3 ⟨rfl, hn⟩
          replace hE := hE.keep hn
          replace hF := hF.keep hn
          replace hG := hG.keep hn
          replace hBx := below_step hBx hn
          clear hn
          go_wp2_with (first | (refine wpl_sto3 23 sPoly _ _ rfl rfl rfl _ rfl _ rfl _ hE _ _ rfl rfl rfl _ rfl _ rfl _ hF _ _ rfl rfl rfl _ rfl _ rfl _ hG (by omega) (by omega) (by omega) ?_; intro w9 hz5 hy5 hx5 _ hB5))
          exact bodyPost_ret (res_ccct rfl rfl hz5 uPoly sPoly rfl hy5 uPoly sPoly rfl hx5 uPoly sPoly rfl) rfl ⟨rfl, hB5 _ _ hBx (by omega) (by omega) (by omega)⟩
        · cases hzH.out
    · obtain ⟨rfl, rfl⟩ : z1 = true ∧ z2 = true := by have hzz := hzH.out; cases z1 <;> cases z2 <;> first | exact ⟨rfl, rfl⟩ | cases hzz
      go_wp2_with ((with_reducible refine wpl_guard ?_); first | (refine wpl_load_arr rfl 23 _ rfl _ rfl _ _ hA _ _ uPoly sPoly ?_) | (refine wpl_load_arr rfl 23 _ rfl _ rfl _ _ hB _ _ uPoly sPoly ?_) | (refine wpl_build_zero rfl 23 64 5 rfl _ uPoly sByte zPoly ?_) | (refine wpl_eql_arr rfl 23 _ _ _ rfl 64 .u8 f (fun _ => 0) 5 rfl rfl uPoly uByte sByte gPoly _ (mkp_zero_dec f h1H.out) ?_) | (refine wpl_eql_arr rfl 23 _ _ _ rfl 64 .u8 g (fun _ => 0) 5 rfl rfl uPoly uByte sByte gPoly _ (mkp_zero_dec g h2H.out) ?_) | (refine wpl_sto3 23 sPoly _ _ rfl rfl rfl _ rfl _ rfl _ hE _ _ rfl rfl rfl _ rfl _ rfl _ hF _ _ rfl rfl rfl _ rfl _ rfl _ hG (by omega) (by omega) (by omega) ?_; intro w9 hz5 hy5 hx5 _ hB5))
      exact bodyPost_ret (res_ccct rfl rfl hz5 uPoly sPoly rfl hy5 uPoly sPoly rfl hx5 uPoly sPoly rfl) rfl ⟨rfl, hB5 _ _ hb (by omega) (by omega) (by omega)⟩
theorem BezoutOf_pair (p : Int) (f : Nat → Int) (g : Nat → Int) (_ : (Lit.int .i64 p).wf = true) (hf : By f) (hg : By g) : ∃ (r0 : (Nat → Int)) (r1 : (Nat → Int)) (r2 : (Nat → Int)) (r3 : Int),
    (∀ w, Calls Try.prog 38 #[.int .i64 p, .agg (u8s 64 f), .agg (u8s 64 g)] w fun e w' => e = .returned (.tuple #[.agg (u8s 64 r0), .agg (u8s 64 r1), .agg (u8s 64 r2), .int .i64 r3]) ∧ Below w.heap.size w w') ∧
    (∀ w, Calls Try.prog 39 #[.int .i64 p, .agg (u8s 64 f), .agg (u8s 64 g)] w fun e w' => e = .returned (.tuple #[.agg (u8s 64 r0), .agg (u8s 64 r1), .agg (u8s 64 r2), .int .i64 r3]) ∧ Below w.heap.size w w') := by
  obtain ⟨b, hb⟩ := dec_true (Good p [f, g])
  exact ⟨_, _, _, _, fun w => specBezoutOf_any p f g w hf hg b hb _ _ rfl rfl _ rfl, fun w => implBezoutOf_any p f g w hf hg b hb _ _ rfl rfl _ rfl⟩
end Go.Proofs.Ythkkicanockhgaa

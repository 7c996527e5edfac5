/- Walks: greatest common divisors on both sides. -/
import Derived.Test.YthkkicanockhgaaC4
set_option linter.unusedVariables false
set_option linter.unusedSimpArgs false
namespace Go.Proofs.Ythkkicanockhgaa
open Go.RowKit
/-- The greatest common divisor, 0 of two zeros. -/
def gcdp (p : Int) (xs ys : List Int) : List Int := if xs = [] ∧ ys = [] then [] else (bez p xs ys).1
set_option maxRecDepth 20000 in
set_option maxHeartbeats 2000000 in
theorem l01Gcd_any (xs ys : List Int) (p : Int) (w : World) (hx : P64 p xs) (hy : P64 p ys) :
    Calls Try.prog 77 #[.int .i64 p, .agg (u8s 64 (cf xs)), .agg (u8s 64 (cf ys))] w fun e w' => e = .returned (.agg (u8s 64 (cf (gcdp p xs ys)))) ∧ Below w.heap.size w w' := by
  have hg1 := Lib.hid (fun w => l01Deg_list p xs w hx)
  have hg2 := Lib.hid (fun w => l01Deg_list p ys w hy)
  have hbzH := Lib.hid (fun (h : ¬ (xs = [] ∧ ys = [])) w => l01Bezout_any xs ys p w hx hy (by
    by_cases h1 : xs = []
    · right; exact fun h2 => h ⟨h1, h2⟩
    · left; exact h1))
  obtain ⟨n1, hn1⟩ : ∃ n, (xs.length : Int) - 1 = n := ⟨_, rfl⟩
  obtain ⟨n2, hn2⟩ : ∃ n, (ys.length : Int) - 1 = n := ⟨_, rfl⟩
  rw [hn1] at hg1
  rw [hn2] at hg2
  have hn1H := Lib.hid hn1
  have hn2H := Lib.hid hn2
  clear hn1 hn2 hx hy
  obtain ⟨hb, hA, hB, hE⟩ := boxes3 w (u8s 64 (cf xs)) (u8s 64 (cf ys)) (u8s 64 fun _ => 0) 23 23 23
  by_cases h0 : n1 < 0 ∧ n2 < 0
  · obtain ⟨h1, h2⟩ := h0
    have hgc : gcdp p xs ys = [] := by
      unfold gcdp; rw [if_pos]
      exact ⟨List.length_eq_zero_iff.1 (by have := hn1H.out; omega), List.length_eq_zero_iff.1 (by have := hn2H.out; omega)⟩
    have hgH := Lib.hid hgc
    clear hgc
    go_enter Try.func77, Try.ntmps77
    go_wp2_with (first | (refine wpl_alloc_arr rfl 23 rfl _ zPoly ?_) | (refine wpl_load_arr rfl 23 _ rfl _ rfl _ _ hA _ _ uPoly sPoly ?_) | (refine wpl_load_arr rfl 23 _ rfl _ rfl _ _ hB _ _ uPoly sPoly ?_))
    refine (hg1.out _).mono ?_
    rintro e w1 ⟨rfl, hn⟩
    replace hA := hA.keep hn
    replace hB := hB.keep hn
    replace hE := hE.keep hn
    replace hb := below_step hb hn
    clear hn
    go_wp2_with (first | (refine wpl_load_arr rfl 23 _ rfl _ rfl _ _ hA _ _ uPoly sPoly ?_) | (refine wpl_load_arr rfl 23 _ rfl _ rfl _ _ hB _ _ uPoly sPoly ?_))
    refine (hg2.out _).mono ?_
    rintro e w2 ⟨rfl, hn⟩
    replace hA := hA.keep hn
    replace hB := hB.keep hn
    replace hE := hE.keep hn
    replace hb := below_step hb hn
    clear hn
    go_wp2_with (first | (refine wpl_build_zero rfl 23 64 5 rfl _ uPoly sByte zPoly ?_) | (refine wpl_store_arr rfl 23 _ _ rfl _ rfl _ rfl _ _ hE sPoly rfl (u8s_oneCell _ _) ?_))
    exact bodyPost_ret (res_c rfl rfl (hE.setRow_same (cs := u8s 64 fun _ => 0)) uPoly sPoly) rfl ⟨by rw [hgH.out, cf_void], below_setRow hb (by omega) _⟩
  · have hgc : gcdp p xs ys = (bez p xs ys).1 := by
      unfold gcdp; rw [if_neg]
      rintro ⟨e1, e2⟩
      exact h0 ⟨by have := hn1H.out; rw [e1] at this; simp at this; omega, by have := hn2H.out; rw [e2] at this; simp at this; omega⟩
    have hbz := hbzH.out (by
      rintro ⟨e1, e2⟩
      exact h0 ⟨by have := hn1H.out; rw [e1] at this; simp at this; omega, by have := hn2H.out; rw [e2] at this; simp at this; omega⟩)
    rw [hgc]
    obtain ⟨D1, hD1⟩ : ∃ M, (bez p xs ys).1 = M := ⟨_, rfl⟩
    obtain ⟨D2, hD2⟩ : ∃ M, (bez p xs ys).2.1 = M := ⟨_, rfl⟩
    obtain ⟨D3, hD3⟩ : ∃ M, (bez p xs ys).2.2 = M := ⟨_, rfl⟩
    rw [hD1]
    rw [hD1, hD2, hD3] at hbz
    have hbH := Lib.hid hbz
    clear hbz hD1 hD2 hD3 hgc hbzH
    by_cases h1 : n1 < 0
    · have h2 : ¬ n2 < 0 := fun h => h0 ⟨h1, h⟩
      clear h0
      go_enter Try.func77, Try.ntmps77
      go_wp2_with (first | (refine wpl_alloc_arr rfl 23 rfl _ zPoly ?_) | (refine wpl_load_arr rfl 23 _ rfl _ rfl _ _ hA _ _ uPoly sPoly ?_) | (refine wpl_load_arr rfl 23 _ rfl _ rfl _ _ hB _ _ uPoly sPoly ?_))
      refine (hg1.out _).mono ?_
      rintro e w1 ⟨rfl, hn⟩
      replace hA := hA.keep hn
      replace hB := hB.keep hn
      replace hE := hE.keep hn
      replace hb := below_step hb hn
      clear hn
      go_wp2_with (first | (refine wpl_load_arr rfl 23 _ rfl _ rfl _ _ hA _ _ uPoly sPoly ?_) | (refine wpl_load_arr rfl 23 _ rfl _ rfl _ _ hB _ _ uPoly sPoly ?_))
      refine (hg2.out _).mono ?_
      rintro e w2 ⟨rfl, hn⟩
      replace hA := hA.keep hn
      replace hB := hB.keep hn
      replace hE := hE.keep hn
      replace hb := below_step hb hn
      clear hn
      go_upto_region 3 with (fail)
      go_wp2_with ((with_reducible refine wpl_guard ?_); first | (refine wpl_load_arr (wanted_none rfl) 23 _ rfl _ rfl _ _ hA _ _ uPoly sPoly ?_) | (refine wpl_load_arr (wanted_none rfl) 23 _ rfl _ rfl _ _ hB _ _ uPoly sPoly ?_))
      refine (hbH.out _).mono ?_
      rintro e w3 ⟨rfl, hn⟩
      replace hA := hA.keep hn
      replace hB := hB.keep hn
      replace hE := hE.keep hn
      replace hb := below_step hb hn
      clear hn
      have hel := hE.lt
      clear hA hB
      go_upto_region 4 with ((with_reducible refine wpl_guard ?_); first | (refine wpl_new3 23 zPoly sPoly _ _ rfl rfl rfl rfl rfl _ _ rfl rfl rfl rfl rfl _ _ rfl rfl rfl rfl rfl rfl _ rfl rfl _ rfl rfl _ rfl ?_; intro w4 hn hN1 hN2 hN3; replace hE := hE.keep hn; replace hb := below_step hb hn; clear hn))
      go_wp2_with ((with_reducible refine wpl_guard ?_); first | (refine wpl_load_arr rfl 23 _ rfl _ rfl _ _ hN1 _ _ uPoly sPoly ?_) | (refine wpl_store_arr rfl 23 _ _ rfl _ rfl _ rfl _ _ hE sPoly (by simp only [u8s_size]) (u8s_oneCell _ _) ?_))
      exact bodyPost_ret (res_c rfl rfl (hE.setRow_same (cs := u8s 64 (cf D1))) uPoly sPoly) rfl ⟨rfl, below_setRow hb (by omega) _⟩
    · clear h0
      go_enter Try.func77, Try.ntmps77
      go_wp2_with (first | (refine wpl_alloc_arr rfl 23 rfl _ zPoly ?_) | (refine wpl_load_arr rfl 23 _ rfl _ rfl _ _ hA _ _ uPoly sPoly ?_) | (refine wpl_load_arr rfl 23 _ rfl _ rfl _ _ hB _ _ uPoly sPoly ?_))
      refine (hg1.out _).mono ?_
      rintro e w1 ⟨rfl, hn⟩
      replace hA := hA.keep hn
      replace hB := hB.keep hn
      replace hE := hE.keep hn
      replace hb := below_step hb hn
      clear hn
      go_upto_region 3 with (fail)
      go_wp2_with ((with_reducible refine wpl_guard ?_); first | (refine wpl_load_arr (wanted_none rfl) 23 _ rfl _ rfl _ _ hA _ _ uPoly sPoly ?_) | (refine wpl_load_arr (wanted_none rfl) 23 _ rfl _ rfl _ _ hB _ _ uPoly sPoly ?_))
      refine (hbH.out _).mono ?_
      rintro e w3 ⟨rfl, hn⟩
      replace hA := hA.keep hn
      replace hB := hB.keep hn
      replace hE := hE.keep hn
      replace hb := below_step hb hn
      clear hn
      have hel := hE.lt
      clear hA hB
      go_upto_region 4 with ((with_reducible refine wpl_guard ?_); first | (refine wpl_new3 23 zPoly sPoly _ _ rfl rfl rfl rfl rfl _ _ rfl rfl rfl rfl rfl _ _ rfl rfl rfl rfl rfl rfl _ rfl rfl _ rfl rfl _ rfl ?_; intro w4 hn hN1 hN2 hN3; replace hE := hE.keep hn; replace hb := below_step hb hn; clear hn))
      go_wp2_with ((with_reducible refine wpl_guard ?_); first | (refine wpl_load_arr rfl 23 _ rfl _ rfl _ _ hN1 _ _ uPoly sPoly ?_) | (refine wpl_store_arr rfl 23 _ _ rfl _ rfl _ rfl _ _ hE sPoly (by simp only [u8s_size]) (u8s_oneCell _ _) ?_))
      exact bodyPost_ret (res_c rfl rfl (hE.setRow_same (cs := u8s 64 (cf D1))) uPoly sPoly) rfl ⟨rfl, below_setRow hb (by omega) _⟩
set_option maxRecDepth 20000 in
set_option maxHeartbeats 2000000 in
theorem specGcdOf_any (p : Int) (f : Nat → Int) (g : Nat → Int) (w : World) (hf : By f) (hg : By g) (b : Bool) (hb : Good p [f, g] ↔ b = true) (z1 z2 : Bool) (h1 : decide ((mkp 64 f).length = 0) = z1) (h2 : decide ((mkp 64 g).length = 0) = z2) (z : Bool) (hz : (z1 && z2) = z) :
    Calls Try.prog 42 #[.int .i64 p, .agg (u8s 64 f), .agg (u8s 64 g)] w fun e w' => e = .returned (.tuple #[.agg (u8s 64 (if b then (if z then (fun _ => 0) else cf (bez p (mkp 64 f) (mkp 64 g)).1) else fun _ => 0)), .int .i64 (if b then (if z then 5 else 0) else 1)]) ∧ Below w.heap.size w w' := by
  obtain ⟨D1, hD1⟩ : ∃ M, (bez p (mkp 64 f) (mkp 64 g)).1 = M := ⟨_, rfl⟩
  obtain ⟨D2, hD2⟩ : ∃ M, (bez p (mkp 64 f) (mkp 64 g)).2.1 = M := ⟨_, rfl⟩
  obtain ⟨D3, hD3⟩ : ∃ M, (bez p (mkp 64 f) (mkp 64 g)).2.2 = M := ⟨_, rfl⟩
  rw [hD1]
  have hDD := Lib.hid (And.intro hD1 (And.intro hD2 hD3))
  have h1H := Lib.hid h1
  have h2H := Lib.hid h2
  have hzH := Lib.hid hz
  clear hD1 hD2 hD3 h1 h2 hz
  have hTwo := fun w => l01Two_any f g p w hf hg b hb z1 z2 h1H.out h2H.out
  rw [hzH.out] at hTwo
  replace hTwo := Lib.hid hTwo
  have hfH := Lib.hid hf
  have hgH := Lib.hid hg
  have hbH := Lib.hid hb
  clear hf hg hb
  obtain ⟨hb, hA, hB, hE⟩ := boxes3 w (u8s 64 f) (u8s 64 g) (u8s 64 fun _ => 0) 23 23 23
  go_enter Try.func42, Try.ntmps42
  go_wp2_with (first | (refine wpl_alloc_arr rfl 23 rfl _ zPoly ?_) | (refine wpl_load_arr rfl 23 _ rfl _ rfl _ _ hA _ _ uPoly sPoly ?_) | (refine wpl_load_arr rfl 23 _ rfl _ rfl _ _ hB _ _ uPoly sPoly ?_))
  refine (hTwo.out _).mono ?_
  rintro e w1 ⟨rfl, hn⟩
  replace hA := hA.keep hn
  replace hB := hB.keep hn
  replace hE := hE.keep hn
  replace hb := below_step hb hn
  clear hn
  clear hTwo
  cases b
  · go_wp2_with (first | (refine wpl_build_zero rfl 23 64 5 rfl _ uPoly sByte zPoly ?_) | (refine wpl_store_arr rfl 23 _ _ rfl _ rfl _ rfl _ _ hE sPoly rfl (u8s_oneCell _ _) ?_))
    exact bodyPost_ret (res_ct rfl rfl (hE.setRow_same (cs := u8s 64 fun _ => 0)) uPoly sPoly rfl) rfl ⟨rfl, below_setRow hb (by omega) _⟩
  · cases z
    · have hzz := hzH.out
      have hG := hbH.out.2 rfl
      have hxH := Lib.hid (hG.p64 (f := f) (by simp) hfH.out)
      have hyH := Lib.hid (hG.p64 (f := g) (by simp) hgH.out)
      have hneH := Lib.hid (show mkp 64 f ≠ [] ∨ mkp 64 g ≠ [] from by
        cases z1
        · left; exact fun h => by have := (nil_iff h1H.out).1 h; cases this
        · cases z2
          · right; exact fun h => by have := (nil_iff h2H.out).1 h; cases this
          · cases hzz)
      clear hG
      clear hzz
      have hdv : ∀ w, Calls Try.prog 77 #[.int .i64 p, .agg (u8s 64 f), .agg (u8s 64 g)] w fun e w' => e = .returned (.agg (u8s 64 (cf D1))) ∧ Below w.heap.size w w' := fun w => by
        have := l01Gcd_any _ _ p w hxH.out hyH.out
        rwa [show gcdp p (mkp 64 f) (mkp 64 g) = D1 from (if_neg (fun h => hneH.out.elim (fun k => k h.1) (fun k => k h.2))).trans hDD.out.1, ← u8s_mkp, ← u8s_mkp] at this
      have hdvH := Lib.hid hdv
      clear hdv
      go_wp2_with (first | (refine wpl_load_arr rfl 23 _ rfl _ rfl _ _ hA _ _ uPoly sPoly ?_) | (refine wpl_load_arr rfl 23 _ rfl _ rfl _ _ hB _ _ uPoly sPoly ?_))
      refine (hdvH.out _).mono ?_
      rintro e w3 ⟨rfl, hn⟩
      replace hE := hE.keep hn
      replace hb := below_step hb hn
      clear hn
      go_wp2_with (refine wpl_store_arr rfl 23 _ _ rfl _ rfl _ rfl _ _ hE sPoly (by simp only [u8s_size]) (u8s_oneCell _ _) ?_)
      exact bodyPost_ret (res_ct rfl rfl (hE.setRow_same (cs := u8s 64 (cf D1))) uPoly sPoly rfl) rfl ⟨rfl, below_setRow hb (by omega) _⟩
    · go_wp2_with (first | (refine wpl_build_zero rfl 23 64 5 rfl _ uPoly sByte zPoly ?_) | (refine wpl_store_arr rfl 23 _ _ rfl _ rfl _ rfl _ _ hE sPoly rfl (u8s_oneCell _ _) ?_))
      exact bodyPost_ret (res_ct rfl rfl (hE.setRow_same (cs := u8s 64 fun _ => 0)) uPoly sPoly rfl) rfl ⟨rfl, below_setRow hb (by omega) _⟩
set_option maxRecDepth 20000 in
set_option maxHeartbeats 2000000 in
theorem implGcdOf_any (p : Int) (f : Nat → Int) (g : Nat → Int) (w : World) (hf : By f) (hg : By g) (b : Bool) (hb : Good p [f, g] ↔ b = true) (z1 z2 : Bool) (h1 : decide ((mkp 64 f).length = 0) = z1) (h2 : decide ((mkp 64 g).length = 0) = z2) (z : Bool) (hz : (z1 && z2) = z) :
    Calls Try.prog 43 #[.int .i64 p, .agg (u8s 64 f), .agg (u8s 64 g)] w fun e w' => e = .returned (.tuple #[.agg (u8s 64 (if b then (if z then (fun _ => 0) else cf (bez p (mkp 64 f) (mkp 64 g)).1) else fun _ => 0)), .int .i64 (if b then (if z then 5 else 0) else 1)]) ∧ Below w.heap.size w w' := by
  have hBz := Lib.hid (fun w => implBezoutOf_any p f g w hf hg b hb z1 z2 h1 h2 z hz)
  obtain ⟨r0, h0⟩ : ∃ r, (if b then (if z then (fun _ => 0) else cf (bez p (mkp 64 f) (mkp 64 g)).1) else fun _ => 0) = r := ⟨_, rfl⟩
  obtain ⟨r1, e1⟩ : ∃ r, (if b then (if z then (fun _ => 0) else cf (bez p (mkp 64 f) (mkp 64 g)).2.1) else fun _ => 0) = r := ⟨_, rfl⟩
  obtain ⟨r2, e2⟩ : ∃ r, (if b then (if z then (fun _ => 0) else cf (bez p (mkp 64 f) (mkp 64 g)).2.2) else fun _ => 0) = r := ⟨_, rfl⟩
  obtain ⟨r3, e3⟩ : ∃ r : Int, (if b then (if z then 5 else 0) else 1) = r := ⟨_, rfl⟩
  rw [h0, e1, e2, e3] at hBz
  rw [h0, e3]
  clear hf hg hb h1 h2 hz h0 e1 e2 e3
  obtain ⟨hb, hA, hB, hE⟩ := boxes3 w (u8s 64 f) (u8s 64 g) (u8s 64 fun _ => 0) 23 23 23
  go_enter Try.func43, Try.ntmps43
  go_wp2_with (first | (refine wpl_alloc_arr rfl 23 rfl _ zPoly ?_) | (refine wpl_load_arr rfl 23 _ rfl _ rfl _ _ hA _ _ uPoly sPoly ?_) | (refine wpl_load_arr rfl 23 _ rfl _ rfl _ _ hB _ _ uPoly sPoly ?_))
  refine (hBz.out _).mono ?_
  rintro e w3 ⟨rfl, hn⟩
  replace hE := hE.keep hn
  replace hb := below_step hb hn
  clear hn
  have hel := hE.lt
  clear hA hB
  go_upto_region 2 with ((with_reducible refine wpl_guard ?_); first | (refine wpl_new3 23 zPoly sPoly _ _ rfl rfl rfl rfl rfl _ _ rfl rfl rfl rfl rfl _ _ rfl rfl rfl rfl rfl rfl _ rfl rfl _ rfl rfl _ rfl ?_; intro w4 hn hN1 hN2 hN3; replace hE := hE.keep hn; replace hb := below_step hb hn; clear hn))
  go_wp2_with ((with_reducible refine wpl_guard ?_); first | (refine wpl_load_arr rfl 23 _ rfl _ rfl _ _ hN1 _ _ uPoly sPoly ?_) | (refine wpl_store_arr rfl 23 _ _ rfl _ rfl _ rfl _ _ hE sPoly (by simp only [u8s_size]) (u8s_oneCell _ _) ?_))
  exact bodyPost_ret (res_ct rfl rfl (hE.setRow_same (cs := u8s 64 r0)) uPoly sPoly rfl) rfl ⟨rfl, below_setRow hb (by omega) _⟩
theorem GcdOf_pair (p : Int) (f : Nat → Int) (g : Nat → Int) (_ : (Lit.int .i64 p).wf = true) (hf : By f) (hg : By g) : ∃ (r0 : (Nat → Int)) (r1 : Int),
    (∀ w, Calls Try.prog 42 #[.int .i64 p, .agg (u8s 64 f), .agg (u8s 64 g)] w fun e w' => e = .returned (.tuple #[.agg (u8s 64 r0), .int .i64 r1]) ∧ Below w.heap.size w w') ∧
    (∀ w, Calls Try.prog 43 #[.int .i64 p, .agg (u8s 64 f), .agg (u8s 64 g)] w fun e w' => e = .returned (.tuple #[.agg (u8s 64 r0), .int .i64 r1]) ∧ Below w.heap.size w w') := by
  obtain ⟨b, hb⟩ := dec_true (Good p [f, g])
  exact ⟨_, _, fun w => specGcdOf_any p f g w hf hg b hb _ _ rfl rfl _ rfl, fun w => implGcdOf_any p f g w hf hg b hb _ _ rfl rfl _ rfl⟩
end Go.Proofs.Ythkkicanockhgaa

/- Walks: draws of primes and polynomials. -/
import Derived.Test.YtddgbnkojdmekaaDr2
set_option linter.unusedVariables false
set_option linter.unusedSimpArgs false
namespace Go.Proofs.Ytddgbnkojdmekaa
open Go.RowKit
set_option maxRecDepth 20000 in
set_option maxHeartbeats 1000000 in
theorem l01DrawPrime_any (B g : Nat) (w : World) (h : Src B w g) :
    Calls Try.prog 71 #[.pointer (some ⟨g, 0, none⟩)] w fun e w' => ∃ x, e = .returned (.int .i64 x) ∧ Pr x ∧ Src B w' g ∧ w.grownBy w' (some g) := by
  have hlt := h.lt
  have hn := below_new w (.cells (ints [2, 2, 3, 3, 5, 7]) 2)
  have hP := Lib.hid (l01Pick_any B g w.heap.size [2, 2, 3, 3, 5, 7] _ (h.below hn) (Blk.new w _ _) (by decide) (by omega) (by decide))
  have hnH := Lib.hid hn
  clear hn h
  go_enter Try.func71, Try.ntmps71
  go_wp2_with fail
  refine hP.out.mono ?_
  rintro e w1 ⟨x, rfl, hx, hS1, hg1⟩
  have hxp : Pr x := by
    simp only [List.mem_cons, List.not_mem_nil, or_false] at hx
    unfold Pr; omega
  have hS1H := Lib.hid hS1
  have hg1H := Lib.hid ((below_grown hnH.out (some g)).trans hg1)
  clear hP hS1 hg1 hx
  go_wp2_with fail
  go_ret
  exact ⟨_, rfl, hxp, hS1H.out, hg1H.out⟩
set_option maxRecDepth 20000 in
set_option maxHeartbeats 1000000 in
theorem l01Near_any (B g : Nat) (m : Int) (w : World) (h : Src B w g) (hm : -1 ≤ m) (hm1 : m ≤ 1000000) :
    Calls Try.prog 45 #[.pointer (some ⟨g, 0, none⟩), .int .i64 m] w fun e w' => ∃ x, e = .returned (.int .i64 x) ∧ -4611686018427387904 ≤ x ∧ x ≤ 1099511627776 ∧ Src B w' g ∧ w.grownBy w' (some g) := by
  have hN := Lib.hid (l01Next_any B g 14 w h)
  clear h
  go_enter Try.func45, Try.ntmps45
  go_wp2_with fail
  refine hN.out.mono ?_
  rintro e w1 ⟨x, rfl, hx0, hx1, hS1, hg1⟩
  have hlt := hS1.lt
  have hn := below_new w1 (.cells (ints [-1, m + 1, 1099511627776, -4611686018427387904]) 2)
  have hP := Lib.hid (l01Pick_any B g w1.heap.size [-1, m + 1, 1099511627776, -4611686018427387904] _ (hS1.below hn) (Blk.new w1 _ _) (by simp) (by omega) (by simp))
  have hN2 := Lib.hid (l01Next_any B g (m + 1) w1 hS1)
  have hnH := Lib.hid hn
  have hg1H := Lib.hid hg1
  clear hn hS1 hg1 hN
  by_cases hz : x = 0
  · go_wp2_with fail
    refine hP.out.mono ?_
    rintro e w2 ⟨y, rfl, hy, hS2, hg2⟩
    have hy2 : -4611686018427387904 ≤ y ∧ y ≤ 1099511627776 := by
      simp only [List.mem_cons, List.not_mem_nil, or_false] at hy
      omega
    have hS2H := Lib.hid hS2
    have hg2H := Lib.hid (hg1H.out.trans ((below_grown hnH.out (some g)).trans hg2))
    clear hP hN2 hS2 hg2 hy
    go_wp2_with fail
    go_ret
    exact ⟨_, rfl, hy2.1, hy2.2, hS2H.out, hg2H.out⟩
  · go_wp2_with fail
    refine hN2.out.mono ?_
    rintro e w2 ⟨y, rfl, hy0, hy1, hS2, hg2⟩
    have hS2H := Lib.hid hS2
    have hg2H := Lib.hid (hg1H.out.trans hg2)
    clear hP hN2 hS2 hg2
    go_wp2_with fail
    go_ret
    exact ⟨_, rfl, by omega, by omega, hS2H.out, hg2H.out⟩
/-- A drawn polynomial: bytes, all less than the prime. -/
def Dw (p : Int) (f : Nat → Int) : Prop := By f ∧ (1 ≤ p → p ≤ 255 → ∀ i, f i < p)
/-- One byte of a polynomial is put. -/
theorem By.put {f : Nat → Int} (h : By f) (k : Nat) (x : Int) : By (fun j => if j = k then x % 256 else f j) := fun i => by
  show 0 ≤ (if i = k then _ else _) ∧ (if i = k then _ else _) ≤ 255
  split
  · omega
  · exact h i
set_option maxRecDepth 20000 in
set_option maxHeartbeats 1000000 in
theorem l01Draw_any (B g : Nat) (p m : Int) (w : World) (h : Src B w g) (hm : -1 ≤ m) (hm1 : m ≤ 63) :
    Calls Try.prog 50 #[.pointer (some ⟨g, 0, none⟩), .int .i64 p, .int .i64 m] w fun e w' => ∃ f, e = .returned (.agg (u8s 64 f)) ∧ Dw p f ∧ Src B w' g ∧ w.grownBy w' (some g) := by
  have hlt := h.lt
  have hO0 := (Blk.new w (u8s 64 fun _ => 0) 25).alloc (.cells (u8s 64 fun _ => 0) 25)
  have hS0 := Blk.newAt (w := w.alloc (.cells (u8s 64 fun _ => 0) 25)) (n := w.heap.size + 1) (by simp) (u8s 64 fun _ => 0) 25
  have hO1 := hO0.setRow_other (g := w.heap.size + 1) (cs := u8s 64 fun _ => 0) (by omega)
  have hS1 := hS0.setRow_same (cs := u8s 64 fun _ => 0)
  have hb1 : Below w.heap.size w (((w.alloc (.cells (u8s 64 fun _ => 0) 25)).alloc (.cells (u8s 64 fun _ => 0) 25)).setRow (w.heap.size + 1) (u8s 64 fun _ => 0)) := below_setRow ((below_new w _).alloc (by simp) _) (by omega) _
  have hSr := Lib.hid (h.below hb1)
  clear h
  go_enter Try.func50, Try.ntmps50
  go_upto_region 2 with ((with_reducible refine wpl_guard ?_); first | (refine wpl_build_zero rfl 25 64 5 rfl _ uPoly sByte zPoly ?_) | (refine wpl_alloc_arr rfl 25 rfl _ zPoly ?_) | (refine wpl_store_arr rfl 25 _ _ rfl _ rfl (u8s 64 fun _ => 0) rfl (u8s 64 fun _ => 0) 25 (by rw [size_alloc]; exact hS0) sPoly (by simp only [u8s_size]) (u8s_oneCell _ _) ?_))
  simp only [Act.put, List.setIfInBounds_toArray, List.set_cons_zero, List.set_cons_succ, size_alloc]
  clear hO0 hS0
  generalize World.setRow _ (w.heap.size + 1) (u8s 64 fun _ => 0) = y0 at *
  obtain ⟨gO, hgO⟩ : ∃ q, w.heap.size = q := ⟨_, rfl⟩
  have hgw := Lib.hid (below_grown hb1 (some g))
  have hN := Lib.hid (l01Next_any B g (m + 2) y0 hSr.out)
  go_wp2_with fail
  refine hN.out.mono ?_
  rintro e y1 ⟨x, rfl, hx0, hx1, hS1r, hg1⟩
  obtain ⟨X, rfl⟩ := Int.eq_ofNat_of_zero_le hx0
  have hX : X ≤ 64 := by omega
  have hOa := hO1.grownR hg1 (fun e => by injection e with e; omega)
  have hVa := hS1.grownR hg1 (fun e => by injection e with e; omega)
  have hSa := Lib.hid hS1r
  have hga := Lib.hid (hgw.out.trans hg1)
  have hfa : ∃ f, Dw p f ∧ Blk y1 (w.heap.size + 1) (u8s 64 f) 25 := ⟨_, ⟨fun _ => ⟨Int.le_refl 0, (by decide : (0 : Int) ≤ 255)⟩, fun h1 _ i => by show (0 : Int) < p; omega⟩, hVa⟩
  clear hO1 hS1 hb1 hSr hN hS1r hg1 hgw hVa hx0 hx1 hgO
  go_wp2_with fail
  go_loopw [8] (fun iv wr => ∃ j : Nat, j ≤ 64 ∧ iv = .int .i64 ((j : Int) - 1) ∧ Blk wr w.heap.size (u8s 64 fun _ => 0) 25 ∧ (∃ f, Dw p f ∧ Blk wr (w.heap.size + 1) (u8s 64 f) 25) ∧ Hid (Src B wr g) ∧ Hid (w.grownBy wr (some g))) (fun iv _ => (intOf iv + 1).toNat)
  case atStart => exact ⟨X, hX, rfl, hOa, hfa, hSa, hga⟩
  case round =>
    clear hOa hfa hSa hga
    rename World => w0
    obtain ⟨j, hj, rfl, hO, ⟨f, hf, hV⟩, hS, hg⟩ := hrel
    cases j with
    | zero =>
      have hfH := Lib.hid hf
      clear hf
      rw [show (((0 : Nat) : Int) - 1) = -1 from rfl]
      go_wp2_with ((with_reducible refine wpl_guard ?_); first | (refine wpl_load_arr rfl 25 _ rfl _ rfl _ _ hV _ _ uPoly sPoly ?_) | (refine wpl_store_arr rfl 25 _ _ rfl _ rfl _ rfl _ _ hO sPoly (by simp only [u8s_size]) (u8s_oneCell _ _) ?_))
      have hsg := grown_row w0 w.heap.size (u8s 64 f)
      exact bodyPost_ret (res_c rfl rfl (hO.setRow_same (cs := u8s 64 f)) uPoly sPoly) rfl ⟨_, rfl, hfH.out, hS.out.step hsg (fun q e => by injection e with e; have := hS.out.ge; omega), grown_past hg.out hsg (fun q e => by injection e with e; omega)⟩
    | succ j =>
      rw [show (((j + 1 : Nat) : Int) - 1) = (j : Int) by omega]
      have hN := Lib.hid (l01Next_any B g 3 w0 hS.out)
      have hfH := Lib.hid hf
      clear hf
      go_wp2_with fail
      refine hN.out.mono ?_
      rintro e w1 ⟨x, rfl, hx0, hx1, hS1, hg1⟩
      have hO1 := hO.grownR hg1 (fun e => by injection e with e; omega)
      have hV1 := hV.grownR hg1 (fun e => by injection e with e; omega)
      have hS1H := Lib.hid hS1
      have hg1H := Lib.hid (hg.out.trans hg1)
      clear hO hV hS hg hN hg1
      by_cases hz : x = 0
      · have hz2 : ¬ 0 < x := by omega
        clear hz hS1
        go_wp2_with fail
        go_roundw
        case rel => exact ⟨j, by omega, by go_num, hO1, ⟨f, hfH.out, hV1⟩, hS1H, hg1H⟩
        case measure => simp [intOf] <;> omega
      · have hz2 : 0 < x := by omega
        have hN := Lib.hid (l01Next_any B g p w1 hS1)
        clear hz hS1
        go_wp2_with fail
        refine hN.out.mono ?_
        rintro e w2 ⟨y, rfl, hy0, hy1, hS2, hg2⟩
        have hO2 := hO1.grownR hg2 (fun e => by injection e with e; omega)
        have hV2 := hV1.grownR hg2 (fun e => by injection e with e; omega)
        have f2 := hV2.free j
        have c2 : w2.cell? ⟨w.heap.size + 1, j, none⟩ = some (.int .u8 (f j)) := by rw [hV2.cell, u8s_get _ (by omega)]
        have hsg := setCellK_grown w2 (w.heap.size + 1) j (.int .u8 (y % 256))
        have hS3 := Lib.hid (hS2.step hsg (fun q e => by injection e with e; have := hS2.ge; omega))
        have hg3 := Lib.hid (grown_past (hg1H.out.trans hg2) hsg (fun q e => by injection e with e; omega))
        have hO3 := hO2.grownR hsg (fun e => by injection e with e; omega)
        have hV3 := hV2.set j (.int .u8 (y % 256))
        rw [u8s_set] at hV3
        have hj64 : (j : Int) < 64 := by omega
        have hfp := Lib.hid (show Dw p _ from ⟨hfH.out.1.put j y, fun h1 h2 i => by
          show (if i = j then y % 256 else f i) < p
          split
          · omega
          · exact hfH.out.2 h1 h2 i⟩)
        clear hO1 hV1 hS1H hg1H hN hS2 hg2 hsg hO2 hV2 hy0 hy1
        go_wp2_with fail
        go_roundw
        case rel => exact ⟨j, by omega, by go_num, hO3, ⟨_, hfp.out, hV3⟩, hS3, hg3⟩
        case measure => simp [intOf] <;> omega
end Go.Proofs.Ytddgbnkojdmekaa

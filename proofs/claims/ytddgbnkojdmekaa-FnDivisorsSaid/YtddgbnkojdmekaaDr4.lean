/- Walks: draws of what may be none. -/
import Derived.Test.YtddgbnkojdmekaaDr3
set_option linter.unusedVariables false
set_option linter.unusedSimpArgs false
namespace Go.Proofs.Ytddgbnkojdmekaa
open Go.RowKit
set_option maxRecDepth 20000 in
set_option maxHeartbeats 1000000 in
theorem l01Bad_any (B g : Nat) (p : Int) (f : Nat → Int) (w : World) (h : Src B w g) (hf : By f) :
    Calls Try.prog 55 #[.pointer (some ⟨g, 0, none⟩), .int .i64 p, .agg (u8s 64 f)] w fun e w' => ∃ f, e = .returned (.agg (u8s 64 f)) ∧ By f ∧ Src B w' g ∧ w.grownBy w' (some g) := by
  have hlt := h.lt
  have hge := h.ge
  obtain ⟨hb, hA, hZ⟩ := boxes2 w (u8s 64 f) (u8s 64 fun _ => 0) 25 25
  have hN := Lib.hid (l01Next_any B g 40 _ (h.below hb))
  have hgw := Lib.hid (below_grown hb (some g))
  have hfH := Lib.hid hf
  clear h hb hf
  go_enter Try.func55, Try.ntmps55
  go_wp2_with ((with_reducible refine wpl_guard ?_); first | (refine wpl_alloc_arr rfl 25 rfl _ zPoly ?_))
  refine hN.out.mono ?_
  rintro e w1 ⟨x, rfl, hx0, hx1, hS1, hg1⟩
  have hA1 := hA.grownR hg1 (fun e => by injection e with e; omega)
  have hZ1 := hZ.grownR hg1 (fun e => by injection e with e; omega)
  have hS1H := Lib.hid hS1
  have hN2 := Lib.hid (l01Next_any B g 64 w1 hS1)
  have hg1H := Lib.hid (hgw.out.trans hg1)
  clear hN hgw hA hZ hS1 hg1
  by_cases hz : x = 0
  · clear hS1H
    go_wp2_with fail
    refine hN2.out.mono ?_
    rintro e w2 ⟨y, rfl, hy0, hy1, hS2, hg2⟩
    obtain ⟨Y, rfl⟩ := Int.eq_ofNat_of_zero_le hy0
    have hY : Y < 64 := by omega
    have hlt2 := hS2.lt
    have hn := below_new w2 (.cells (ints [p, 7, 255, 1]) 2)
    have hP := Lib.hid (l01Pick_any B g w2.heap.size [p, 7, 255, 1] _ (hS2.below hn) (Blk.new w2 _ _) (by simp) (by omega) (by simp))
    have hA2 := (hA1.grownR hg2 (fun e => by injection e with e; omega)).keep hn
    have hZ2 := (hZ1.grownR hg2 (fun e => by injection e with e; omega)).keep hn
    have hg2H := Lib.hid ((hg1H.out.trans hg2).trans (below_grown hn (some g)))
    clear hN2 hA1 hZ1 hg1H hg2 hn hS2
    go_wp2_with fail
    refine hP.out.mono ?_
    rintro e w3 ⟨v, rfl, hv, hS3, hg3⟩
    have hA3 := hA2.grownR hg3 (fun e => by injection e with e; omega)
    have hZ3 := hZ2.grownR hg3 (fun e => by injection e with e; omega)
    have f3 := hA3.free Y
    have c3 : w3.cell? ⟨w.heap.size, Y, none⟩ = some (.int .u8 (f Y)) := by rw [hA3.cell, u8s_get _ (by omega)]
    have hsg := setCellK_grown w3 w.heap.size Y (.int .u8 (v % 256))
    have hS4 := Lib.hid (hS3.step hsg (fun q e => by injection e with e; omega))
    have hg4 := Lib.hid (grown_past (hg2H.out.trans hg3) hsg (fun q e => by injection e with e; omega))
    have hZ4 := hZ3.grownR hsg (fun e => by injection e with e; omega)
    have hA4 := hA3.set Y (.int .u8 (v % 256))
    rw [u8s_set] at hA4
    have hY64 : (Y : Int) < 64 := by omega
    have hfp := Lib.hid (hfH.out.put Y v)
    clear hP hv hS3 hA2 hZ2 hg2H hg3 hA3 hZ3 hsg hy0 hy1
    go_wp2_with ((with_reducible refine wpl_guard ?_); first | (refine wpl_load_arr rfl 25 _ rfl _ rfl _ _ hA4 _ _ uPoly sPoly ?_) | (refine wpl_store_arr rfl 25 _ _ rfl _ rfl _ rfl _ _ hZ4 sPoly (by simp only [u8s_size]) (u8s_oneCell _ _) ?_))
    have hrg := grown_row (w3.setCell ⟨w.heap.size, Y, none⟩ (.int .u8 (v % 256))) (w.heap.size + 1) (u8s 64 fun j => if j = Y then v % 256 else f j)
    exact bodyPost_ret (res_c rfl rfl (hZ4.setRow_same (cs := u8s 64 fun j => if j = Y then v % 256 else f j)) uPoly sPoly) rfl ⟨_, rfl, hfp.out, hS4.out.step hrg (fun q e => by injection e with e; omega), grown_past hg4.out hrg (fun q e => by injection e with e; omega)⟩
  · clear hN2
    go_wp2_with ((with_reducible refine wpl_guard ?_); first | (refine wpl_load_arr rfl 25 _ rfl _ rfl _ _ hA1 _ _ uPoly sPoly ?_) | (refine wpl_store_arr rfl 25 _ _ rfl _ rfl _ rfl _ _ hZ1 sPoly (by simp only [u8s_size]) (u8s_oneCell _ _) ?_))
    have hrg := grown_row w1 (w.heap.size + 1) (u8s 64 f)
    exact bodyPost_ret (res_c rfl rfl (hZ1.setRow_same (cs := u8s 64 f)) uPoly sPoly) rfl ⟨_, rfl, hfH.out, hS1H.out.step hrg (fun q e => by injection e with e; omega), grown_past hg1H.out hrg (fun q e => by injection e with e; omega)⟩
end Go.Proofs.Ytddgbnkojdmekaa

/- The law FnExactModuleGenerator, walked. -/
import Derived.Test.YtnkkkgaojhkniabMgA
set_option linter.unusedVariables false
set_option linter.unusedSimpArgs false
namespace Go.Proofs.Ytnkkkgaojhkniab
open Go.RowKit
set_option maxHeartbeats 1000000 in
theorem lawModuleGenerator_any (a0 : Int) (a1 : Int) (a2 : Nat → Int) (w : World) (w0 : (Lit.int .i64 a0).wf = true) (w1 : (Lit.int .i64 a1).wf = true) (w2 : ∀ i, 0 ≤ a2 i ∧ a2 i ≤ 255) :
    Calls Try.prog 8 #[.int .i64 a0, .int .i64 a1, .agg (u8s 36 a2)] w fun e w' => e = .returned (.bool true) ∧ Below w.heap.size w w' := by
  obtain ⟨r0, r1, hS, hI⟩ := ModuleGenerator_pair a0 a1 a2 w0 w1 w2
  have HS := Lib.hid hS
  have HI := Lib.hid hI
  clear hS hI w0 w1 w2
  obtain ⟨hb, hA2⟩ := boxes1 w (u8s 36 a2) 23
  go_enter Try.func8, Try.ntmps8
  go_wp2_with (first | (refine wpl_load_arr rfl 23 _ rfl _ rfl _ _ hA2 _ _ uArr66 sArr66 ?_))
  refine (toSquare_any a2 _).mono ?_
  rintro e x1 ⟨rfl, hn⟩
  replace hA2 := hA2.keep hn
  replace hb := below_step hb hn
  clear hn
  go_wp2_with (first | fail)
  refine (HS.out _).mono ?_
  rintro e x2 ⟨rfl, hn⟩
  replace hA2 := hA2.keep hn
  replace hb := below_step hb hn
  clear hn
  have hS0 := Blk.newAt (w := x2) (n := x2.heap.size) rfl (u8s 6 r0) 28
  replace hA2 := hA2.alloc (.cells (u8s 6 r0) 28)
  replace hb := below_step hb (below_new _ (.cells (u8s 6 r0) 28))
  go_wp2_with (first | (refine wpl_alloc_arr rfl 28 rfl _ zRow ?_) | (refine wpl_store_new rfl 28 _ _ rfl _ rfl (by first | rfl | simp) _ rfl sRow rfl (u8s_oneCell _ _) ?_) | (refine wpl_load_arr rfl 23 _ rfl _ rfl _ _ hA2 _ _ uArr66 sArr66 ?_))
  refine (toSquare_any a2 _).mono ?_
  rintro e x3 ⟨rfl, hn⟩
  replace hA2 := hA2.keep hn
  replace hS0 := hS0.keep hn
  replace hb := below_step hb hn
  clear hn
  go_wp2_with (first | fail)
  refine (HI.out _).mono ?_
  rintro e x4 ⟨rfl, hn⟩
  replace hA2 := hA2.keep hn
  replace hS0 := hS0.keep hn
  replace hb := below_step hb hn
  clear hn
  have hI0 := Blk.newAt (w := x4) (n := x4.heap.size) rfl (u8s 6 r0) 28
  replace hA2 := hA2.alloc (.cells (u8s 6 r0) 28)
  replace hS0 := hS0.alloc (.cells (u8s 6 r0) 28)
  replace hb := below_step hb (below_new _ (.cells (u8s 6 r0) 28))
  go_wp2_with (first | (refine wpl_alloc_arr rfl 28 rfl _ zRow ?_) | (refine wpl_store_new rfl 28 _ _ rfl _ rfl (by first | rfl | simp) _ rfl sRow rfl (u8s_oneCell _ _) ?_) | (refine wpl_load_arr rfl 28 _ rfl _ rfl _ _ hI0 _ _ uRow sRow ?_) | (refine wpl_load_arr rfl 28 _ rfl _ rfl _ _ hS0 _ _ uRow sRow ?_))
  refine (eqRow_same r0 _).mono ?_
  rintro e x5 ⟨rfl, hn⟩
  replace hA2 := hA2.keep hn
  replace hS0 := hS0.keep hn
  replace hI0 := hI0.keep hn
  replace hb := below_step hb hn
  clear hn
  go_wp2_with (first | fail)
  go_ret
  exact ⟨rfl, hb⟩
end Go.Proofs.Ytnkkkgaojhkniab

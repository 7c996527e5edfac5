/- The law FnExactCompanionOf, walked. -/
import Derived.Test.YtnkkkgaojhkniaaM5
set_option linter.unusedVariables false
set_option linter.unusedSimpArgs false
namespace Go.Proofs.Ytnkkkgaojhkniaa
open Go.RowKit
set_option maxHeartbeats 1000000 in
theorem lawCompanionOf_any (a0 : Int) (a1 : Nat → Int) (w : World) (w0 : (Lit.int .i64 a0).wf = true) (w1 : ∀ i, 0 ≤ a1 i ∧ a1 i ≤ 255) :
    Calls Try.prog 4 #[.int .i64 a0, .agg (u8s 64 a1)] w fun e w' => e = .returned (.bool true) ∧ Below w.heap.size w w' := by
  obtain ⟨r0, r1, hS, hI⟩ := CompanionOf_pair a0 a1 w0 w1
  have HS := Lib.hid hS
  have HI := Lib.hid hI
  clear hS hI w0 w1
  obtain ⟨hb, hA1⟩ := boxes1 w (u8s 64 a1) 30
  go_enter Try.func4, Try.ntmps4
  go_wp2_with (first | (refine wpl_load_arr rfl 30 _ rfl _ rfl _ _ hA1 _ _ uArr64 sArr64 ?_))
  refine (toPoly_any a1 _).mono ?_
  rintro e x1 ⟨rfl, hn⟩
  replace hA1 := hA1.keep hn
  replace hb := below_step hb hn
  clear hn
  go_wp2_with (first | fail)
  refine (HS.out _).mono ?_
  rintro e x2 ⟨rfl, hn⟩
  replace hA1 := hA1.keep hn
  replace hb := below_step hb hn
  clear hn
  have hS0 := Blk.newAt (w := x2) (n := x2.heap.size) rfl (u8s 36 r0) 27
  replace hA1 := hA1.alloc (.cells (u8s 36 r0) 27)
  replace hb := below_step hb (below_new _ (.cells (u8s 36 r0) 27))
  go_wp2_with (first | (refine wpl_alloc_arr rfl 27 rfl _ zSquare ?_) | (refine wpl_store_new rfl 27 _ _ rfl _ rfl (by first | rfl | simp) _ rfl sSquare rfl (u8s_oneCell _ _) ?_) | (refine wpl_load_arr rfl 30 _ rfl _ rfl _ _ hA1 _ _ uArr64 sArr64 ?_))
  refine (toPoly_any a1 _).mono ?_
  rintro e x3 ⟨rfl, hn⟩
  replace hA1 := hA1.keep hn
  replace hS0 := hS0.keep hn
  replace hb := below_step hb hn
  clear hn
  go_wp2_with (first | fail)
  refine (HI.out _).mono ?_
  rintro e x4 ⟨rfl, hn⟩
  replace hA1 := hA1.keep hn
  replace hS0 := hS0.keep hn
  replace hb := below_step hb hn
  clear hn
  have hI0 := Blk.newAt (w := x4) (n := x4.heap.size) rfl (u8s 36 r0) 27
  replace hA1 := hA1.alloc (.cells (u8s 36 r0) 27)
  replace hS0 := hS0.alloc (.cells (u8s 36 r0) 27)
  replace hb := below_step hb (below_new _ (.cells (u8s 36 r0) 27))
  go_wp2_with (first | (refine wpl_alloc_arr rfl 27 rfl _ zSquare ?_) | (refine wpl_store_new rfl 27 _ _ rfl _ rfl (by first | rfl | simp) _ rfl sSquare rfl (u8s_oneCell _ _) ?_) | (refine wpl_load_arr rfl 27 _ rfl _ rfl _ _ hI0 _ _ uSquare sSquare ?_) | (refine wpl_load_arr rfl 27 _ rfl _ rfl _ _ hS0 _ _ uSquare sSquare ?_))
  refine (eqSquare_same r0 _).mono ?_
  rintro e x5 ⟨rfl, hn⟩
  replace hA1 := hA1.keep hn
  replace hS0 := hS0.keep hn
  replace hI0 := hI0.keep hn
  replace hb := below_step hb hn
  clear hn
  go_wp2_with (first | fail)
  go_ret
  exact ⟨rfl, hb⟩
end Go.Proofs.Ytnkkkgaojhkniaa

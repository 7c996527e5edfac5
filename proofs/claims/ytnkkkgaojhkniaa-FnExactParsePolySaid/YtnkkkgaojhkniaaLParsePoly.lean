/- The law FnExactParsePoly, walked. -/
import Derived.Test.YtnkkkgaojhkniaaW12
set_option linter.unusedVariables false
set_option linter.unusedSimpArgs false
namespace Go.Proofs.Ytnkkkgaojhkniaa
open Go.RowKit
set_option maxHeartbeats 1000000 in
theorem lawParsePoly_any (a0 : Int) (a1 : ByteArray) (w : World) (w0 : (Lit.int .i64 a0).wf = true) (w1 : a1.size ≤ maxLen) :
    Calls Try.prog 5 #[.int .i64 a0, .string a1] w fun e w' => e = .returned (.bool true) ∧ Below w.heap.size w w' := by
  obtain ⟨r0, r1, hS, hI⟩ := ParsePoly_pair a0 a1 w0 w1
  have HS := Lib.hid hS
  have HI := Lib.hid hI
  clear hS hI w0 w1
  have hb := Below.refl w.heap.size w
  by_cases hg1 : (a1.size : Int) ≤ 1048576
  case neg =>
    have hg : 1048576 < (a1.size : Int) := by omega
    go_enter Try.func5, Try.ntmps5
    go_wp2_with fail
    go_ret
    exact ⟨rfl, hb⟩
  go_enter Try.func5, Try.ntmps5
  go_wp2_with (first | fail)
  refine (HS.out _).mono ?_
  rintro e x1 ⟨rfl, hn⟩
  replace hb := below_step hb hn
  clear hn
  have hS0 := Blk.newAt (w := x1) (n := x1.heap.size) rfl (u8s 64 r0) 33
  replace hb := below_step hb (below_new _ (.cells (u8s 64 r0) 33))
  go_wp2_with (first | (refine wpl_alloc_arr rfl 33 rfl _ zPoly ?_) | (refine wpl_store_new rfl 33 _ _ rfl _ rfl (by first | rfl | simp) _ rfl sPoly rfl (u8s_oneCell _ _) ?_) | fail)
  refine (HI.out _).mono ?_
  rintro e x2 ⟨rfl, hn⟩
  replace hS0 := hS0.keep hn
  replace hb := below_step hb hn
  clear hn
  have hI0 := Blk.newAt (w := x2) (n := x2.heap.size) rfl (u8s 64 r0) 33
  replace hS0 := hS0.alloc (.cells (u8s 64 r0) 33)
  replace hb := below_step hb (below_new _ (.cells (u8s 64 r0) 33))
  go_wp2_with (first | (refine wpl_alloc_arr rfl 33 rfl _ zPoly ?_) | (refine wpl_store_new rfl 33 _ _ rfl _ rfl (by first | rfl | simp) _ rfl sPoly rfl (u8s_oneCell _ _) ?_) | (refine wpl_load_arr rfl 33 _ rfl _ rfl _ _ hI0 _ _ uPoly sPoly ?_) | (refine wpl_load_arr rfl 33 _ rfl _ rfl _ _ hS0 _ _ uPoly sPoly ?_))
  refine (eqPoly_same r0 _).mono ?_
  rintro e x3 ⟨rfl, hn⟩
  replace hS0 := hS0.keep hn
  replace hI0 := hI0.keep hn
  replace hb := below_step hb hn
  clear hn
  go_wp2_with (first | fail)
  go_ret
  exact ⟨rfl, hb⟩
end Go.Proofs.Ytnkkkgaojhkniaa

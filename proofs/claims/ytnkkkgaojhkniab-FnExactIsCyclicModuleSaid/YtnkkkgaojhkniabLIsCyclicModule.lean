/- The law FnExactIsCyclicModule, walked. -/
import Derived.Test.YtnkkkgaojhkniabSq2
set_option linter.unusedVariables false
set_option linter.unusedSimpArgs false
namespace Go.Proofs.Ytnkkkgaojhkniab
open Go.RowKit
set_option maxHeartbeats 1000000 in
theorem lawIsCyclicModule_any (a0 : Int) (a1 : Int) (a2 : Nat → Int) (w : World) (w0 : (Lit.int .i64 a0).wf = true) (w1 : (Lit.int .i64 a1).wf = true) (w2 : ∀ i, 0 ≤ a2 i ∧ a2 i ≤ 255) :
    Calls Try.prog 6 #[.int .i64 a0, .int .i64 a1, .agg (u8s 36 a2)] w fun e w' => e = .returned (.bool true) ∧ Below w.heap.size w w' := by
  obtain ⟨r0, r1, hS, hI⟩ := IsCyclicModule_pair a0 a1 a2 w0 w1 w2
  have HS := Lib.hid hS
  have HI := Lib.hid hI
  clear hS hI w0 w1 w2
  obtain ⟨hb, hA2⟩ := boxes1 w (u8s 36 a2) 23
  go_enter Try.func6, Try.ntmps6
  go_wp2_with (first | (refine wpl_load_arr rfl 23 _ rfl _ rfl _ _ hA2 _ _ uArr66 sArr66 ?_))
  refine (toSquare_any a2 _).mono ?_
  rintro e x1 ⟨rfl, hn⟩
  replace hA2 := hA2.keep hn
  replace hb := below_step hb hn
  clear hn
  go_wp2_with (first | fail)
  refine (HS.out _).mono ?_
  rintro e x2 ⟨rfl, hn⟩
  replace hA2 := hA2.keep hn
  replace hb := below_step hb hn
  clear hn
  go_wp2_with (first | (refine wpl_load_arr rfl 23 _ rfl _ rfl _ _ hA2 _ _ uArr66 sArr66 ?_))
  refine (toSquare_any a2 _).mono ?_
  rintro e x3 ⟨rfl, hn⟩
  replace hA2 := hA2.keep hn
  replace hb := below_step hb hn
  clear hn
  go_wp2_with (first | fail)
  refine (HI.out _).mono ?_
  rintro e x4 ⟨rfl, hn⟩
  replace hA2 := hA2.keep hn
  replace hb := below_step hb hn
  clear hn
  go_wp2_with (first | fail)
  go_ret
  exact ⟨rfl, hb⟩
end Go.Proofs.Ytnkkkgaojhkniab

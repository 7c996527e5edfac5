/- The law FnExactIsDiscriminant, walked. -/
import Derived.Test.YtohgjihccjnheaaD1
set_option linter.unusedVariables false
set_option linter.unusedSimpArgs false
namespace Go.Proofs.Ytohgjihccjnheaa
open Go.RowKit
set_option maxHeartbeats 1000000 in
theorem lawIsDiscriminant_any (a0 : Int) (a1 : Nat → Int) (w : World) (w0 : (Lit.int .i64 a0).wf = true) (w1 : ∀ i, 0 ≤ a1 i ∧ a1 i ≤ 255) :
    Calls Try.prog 3 #[.int .i64 a0, .agg (u8s 64 a1)] w fun e w' => e = .returned (.bool true) ∧ Below w.heap.size w w' := by
  obtain ⟨r0, hS, hI⟩ := IsDiscriminant_pair a0 a1 w0 w1
  have HS := Lib.hid hS
  have HI := Lib.hid hI
  clear hS hI w0 w1
  obtain ⟨hb, hA1⟩ := boxes1 w (u8s 64 a1) 22
  go_enter Try.func3, Try.ntmps3
  go_wp2_with (first | (refine wpl_load_arr rfl 22 _ rfl _ rfl _ _ hA1 _ _ uArr64 sArr64 ?_))
  refine (toPoly_any a1 _).mono ?_
  rintro e x1 ⟨rfl, hn⟩
  replace hA1 := hA1.keep hn
  replace hb := below_step hb hn
  clear hn
  go_wp2_with (first | fail)
  refine (HS.out _).mono ?_
  rintro e x2 ⟨rfl, hn⟩
  replace hA1 := hA1.keep hn
  replace hb := below_step hb hn
  clear hn
  go_wp2_with (first | (refine wpl_load_arr rfl 22 _ rfl _ rfl _ _ hA1 _ _ uArr64 sArr64 ?_))
  refine (toPoly_any a1 _).mono ?_
  rintro e x3 ⟨rfl, hn⟩
  replace hA1 := hA1.keep hn
  replace hb := below_step hb hn
  clear hn
  go_wp2_with (first | fail)
  refine (HI.out _).mono ?_
  rintro e x4 ⟨rfl, hn⟩
  replace hA1 := hA1.keep hn
  replace hb := below_step hb hn
  clear hn
  go_wp2_with (first | fail)
  go_ret
  exact ⟨rfl, hb⟩
end Go.Proofs.Ytohgjihccjnheaa

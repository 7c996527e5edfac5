/- The law FnExactInvariantFactors, walked. -/
import Derived.Test.YtnkkkgaojhkniabSq3
set_option linter.unusedVariables false
set_option linter.unusedSimpArgs false
namespace Go.Proofs.Ytnkkkgaojhkniab
open Go.RowKit
set_option maxRecDepth 20000 in
set_option maxHeartbeats 2000000 in
theorem lawInvariantFactors_any (a0 : Int) (a1 : Int) (a2 : Nat → Int) (w : World) (w0 : (Lit.int .i64 a0).wf = true) (w1 : (Lit.int .i64 a1).wf = true) (w2 : ∀ i, 0 ≤ a2 i ∧ a2 i ≤ 255) :
    Calls Try.prog 7 #[.int .i64 a0, .int .i64 a1, .agg (u8s 36 a2)] w fun e w' => e = .returned (.bool true) ∧ Below w.heap.size w w' := by
  obtain ⟨n, M, c, hl, hS, hI⟩ := InvariantFactors_pair a0 a1 a2 w0 w1 w2
  unfold ifPost at hS hI
  have HS := Lib.hid hS
  have HI := Lib.hid hI
  clear hS hI w0 w2 w1
  have hcc : (c == c) = true := beq_self_eq_true _
  have hmm : ((1 + (n : Int) * 64) == (1 + (n : Int) * 64)) = true := beq_self_eq_true _
  have hb := below_new w (.cells (u8s 36 a2) 23)
  have hA := Blk.new w (u8s 36 a2) 23
  go_enter Try.func7, Try.ntmps7
  go_wp2_with ((with_reducible refine wpl_guard ?_); first | (refine wpl_load_arr rfl 23 _ rfl _ rfl _ _ hA _ _ uArr66 sArr66 ?_))
  refine (toSquare_any a2 _).mono ?_
  rintro e x1 ⟨rfl, hn⟩
  replace hA := hA.keep hn
  replace hb := below_step hb hn
  clear hn
  go_wp2_with fail
  refine (HS.out _).mono ?_
  rintro e x2 ⟨v0, rfl, k0, hn⟩
  have h0 := Lib.hid k0
  replace hA := hA.keep hn
  replace hb := below_step hb hn
  clear hn k0
  go_wp2_with ((with_reducible refine wpl_guard ?_); first | (refine wpl_load_arr rfl 23 _ rfl _ rfl _ _ hA _ _ uArr66 sArr66 ?_))
  refine (toSquare_any a2 _).mono ?_
  rintro e x3 ⟨rfl, hn⟩
  replace hA := hA.keep hn
  replace h0 := Lib.hid (h0.out.below hn)
  replace hb := below_step hb hn
  clear hn
  go_wp2_with fail
  refine (HI.out _).mono ?_
  rintro e x4 ⟨v1, rfl, k1, hn⟩
  have h1 := Lib.hid k1
  have h01 := Lib.hid (h0.out.below hn)
  have hA1 := hA.keep hn
  have hn1 := Lib.hid hn
  clear hn k1
  go_wp2_with fail
  refine (eqPolyS_same _ _ n _ _ M _ h1.out h01.out (by omega)).mono ?_
  rintro e x4b ⟨rfl, hn⟩
  replace h1 := Lib.hid (h1.out.below hn)
  replace hA1 := hA1.keep hn
  replace hn1 := Lib.hid (below_step hn1.out hn)
  clear hn h01
  go_wp2_with fail
  refine (markPolyS_any v1 n _ 1 _ _ h1.out.fl (by omega) (by omega) hn1.out.size).mono ?_
  rintro e x5 ⟨rfl, k1, hn⟩
  have h2 := Lib.hid k1
  have hn2 := Lib.hid (hn1.out.trans hn)
  have hA2 := hA.keep hn2.out
  have h02 := Lib.hid (h0.out.below hn2.out)
  replace hb := below_step hb hn2.out
  clear hn k1 h1 hA1 hn1 hn2 hA h0
  go_wp2_with fail
  refine (heldPolyS_any v1 n _ 1 _ h2.out (by omega) (by omega)).mono ?_
  rintro e x6 ⟨rfl, rfl⟩
  go_wp2_with ((with_reducible refine wpl_guard ?_); first | (refine wpl_load_arr rfl 23 _ rfl _ rfl _ _ hA2 _ _ uArr66 sArr66 ?_))
  refine (toSquare_any a2 _).mono ?_
  rintro e x7 ⟨rfl, hn⟩
  replace h2 := Lib.hid (h2.out.below hn)
  replace h02 := Lib.hid (h02.out.below hn)
  replace hb := below_step hb hn
  clear hn hA2
  go_wp2_with fail
  refine (HI.out _).mono ?_
  rintro e x8 ⟨v2, rfl, k1, hn⟩
  have h3 := Lib.hid k1
  replace h2 := Lib.hid (h2.out.below hn)
  replace h02 := Lib.hid (h02.out.below hn)
  replace hb := below_step hb hn
  clear hn k1
  go_wp2_with fail
  refine (eqPolyS_same _ _ n _ _ M _ h3.out h02.out (by omega)).mono ?_
  rintro e x9b ⟨rfl, hn⟩
  replace h2 := Lib.hid (h2.out.below hn)
  replace hb := below_step hb hn
  clear hn h3 h02
  go_wp2_with fail
  refine (heldPolyS_any v1 n _ 1 _ h2.out (by omega) (by omega)).mono ?_
  rintro e x9 ⟨rfl, rfl⟩
  go_wp2_with fail
  go_ret
  exact ⟨rfl, hb⟩
end Go.Proofs.Ytnkkkgaojhkniab

/- The law FnExactActionOf, walked. -/
import Derived.Test.YtionaenmjndncabF8
set_option linter.unusedVariables false
set_option linter.unusedSimpArgs false
namespace Go.Proofs.Ytionaenmjndncab
open Go.RowKit
def acPost (n : Nat) (M : Nat → List Int) (c : Int) (w : World) (e : Ending) (w' : World) : Prop := ∃ v, e = .returned (.tuple #[v, .int .i64 c]) ∧ PlS w' w.heap.size v n M ∧ Below w.heap.size w w'
theorem ActionOf_pair (p : Int) (f : Nat → Int) (_ : (Lit.int .i64 p).wf = true) (hf : By f) : ∃ (n : Nat) (M : Nat → List Int) (c : Int), n ≤ 1000 ∧
    (∀ w, Calls Try.prog 13 #[.int .i64 p, .agg (u8s 64 f)] w (acPost n M c w)) ∧ (∀ w, Calls Try.prog 14 #[.int .i64 p, .agg (u8s 64 f)] w (acPost n M c w)) := by
  obtain ⟨b, hb⟩ := dec_true (Good p [f])
  obtain ⟨t, ht⟩ := dec_true (AcFit p p.toNat (mkp 64 f))
  have hP : Pr p → p = (p.toNat : Int) := fun h => by have := h.pos; omega
  have hl := mkp_length 64 f
  exact ⟨_, _, _, by split <;> omega, fun w => specActionOf_any f p p.toNat w hf hP b _ t hb rfl ht, fun w => implActionOf_any f p p.toNat w hf hP b _ t hb rfl ht⟩
set_option maxRecDepth 20000 in
set_option maxHeartbeats 2000000 in
theorem lawActionOf_any (a0 : Int) (a1 : Nat → Int) (w : World) (w0 : (Lit.int .i64 a0).wf = true) (w1 : ∀ i, 0 ≤ a1 i ∧ a1 i ≤ 255) :
    Calls Try.prog 4 #[.int .i64 a0, .agg (u8s 64 a1)] w fun e w' => e = .returned (.bool true) ∧ Below w.heap.size w w' := by
  obtain ⟨n, M, c, hl, hS, hI⟩ := ActionOf_pair a0 a1 w0 w1
  unfold acPost at hS hI
  have HS := Lib.hid hS
  have HI := Lib.hid hI
  clear hS hI w0 w1
  have hcc : (c == c) = true := beq_self_eq_true _
  have hmm : ((1 + (n : Int) * 64) == (1 + (n : Int) * 64)) = true := beq_self_eq_true _
  have hb := below_new w (.cells (u8s 64 a1) 22)
  have hA := Blk.new w (u8s 64 a1) 22
  go_enter Try.func4, Try.ntmps4
  go_wp2_with ((with_reducible refine wpl_guard ?_); first | (refine wpl_load_arr rfl 22 _ rfl _ rfl _ _ hA _ _ uArr64 sArr64 ?_))
  refine (toPoly_any a1 _).mono ?_
  rintro e x1 ⟨rfl, hn⟩
  replace hA := hA.keep hn
  replace hb := below_step hb hn
  clear hn
  go_wp2_with fail
  refine (HS.out _).mono ?_
  rintro e x2 ⟨v0, rfl, k0, hn⟩
  have h0 := Lib.hid k0
  replace hA := hA.keep hn
  replace hb := below_step hb hn
  clear hn k0
  go_wp2_with ((with_reducible refine wpl_guard ?_); first | (refine wpl_load_arr rfl 22 _ rfl _ rfl _ _ hA _ _ uArr64 sArr64 ?_))
  refine (toPoly_any a1 _).mono ?_
  rintro e x3 ⟨rfl, hn⟩
  replace hA := hA.keep hn
  replace h0 := Lib.hid (h0.out.below hn)
  replace hb := below_step hb hn
  clear hn
  go_wp2_with fail
  refine (HI.out _).mono ?_
  rintro e x4 ⟨v1, rfl, k1, hn⟩
  have h1 := Lib.hid k1
  have h01 := Lib.hid (h0.out.below hn)
  have hA1 := hA.keep hn
  have hn1 := Lib.hid hn
  clear hn k1
  go_wp2_with fail
  refine (eqPolyS_same _ _ n _ _ M _ h1.out h01.out hl).mono ?_
  rintro e x4b ⟨rfl, hn⟩
  replace h1 := Lib.hid (h1.out.below hn)
  replace hA1 := hA1.keep hn
  replace hn1 := Lib.hid (below_step hn1.out hn)
  clear hn h01
  go_wp2_with fail
  refine (markPolyS_any v1 n _ _ _ h1.out.fl hl hn1.out.size).mono ?_
  rintro e x5 ⟨rfl, k1, hn⟩
  have h2 := Lib.hid k1
  have hn2 := Lib.hid (hn1.out.trans hn)
  have hA2 := hA.keep hn2.out
  have h02 := Lib.hid (h0.out.below hn2.out)
  replace hb := below_step hb hn2.out
  clear hn k1 h1 hA1 hn1 hn2 hA h0
  go_wp2_with fail
  refine (heldPolyS_any v1 n _ _ h2.out hl).mono ?_
  rintro e x6 ⟨rfl, rfl⟩
  go_wp2_with ((with_reducible refine wpl_guard ?_); first | (refine wpl_load_arr rfl 22 _ rfl _ rfl _ _ hA2 _ _ uArr64 sArr64 ?_))
  refine (toPoly_any a1 _).mono ?_
  rintro e x7 ⟨rfl, hn⟩
  replace h2 := Lib.hid (h2.out.below hn)
  replace h02 := Lib.hid (h02.out.below hn)
  replace hb := below_step hb hn
  clear hn hA2
  go_wp2_with fail
  refine (HI.out _).mono ?_
  rintro e x8 ⟨v2, rfl, k1, hn⟩
  have h3 := Lib.hid k1
  replace h2 := Lib.hid (h2.out.below hn)
  replace h02 := Lib.hid (h02.out.below hn)
  replace hb := below_step hb hn
  clear hn k1
  go_wp2_with fail
  refine (eqPolyS_same _ _ n _ _ M _ h3.out h02.out hl).mono ?_
  rintro e x9b ⟨rfl, hn⟩
  replace h2 := Lib.hid (h2.out.below hn)
  replace hb := below_step hb hn
  clear hn h3 h02
  go_wp2_with fail
  refine (heldPolyS_any v1 n _ _ h2.out hl).mono ?_
  rintro e x9 ⟨rfl, rfl⟩
  go_wp2_with fail
  go_ret
  exact ⟨rfl, hb⟩
end Go.Proofs.Ytionaenmjndncab

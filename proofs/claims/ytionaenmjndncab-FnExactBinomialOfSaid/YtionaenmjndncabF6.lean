/- Walks: BinomialOf on both sides. -/
import Derived.Test.YtionaenmjndncabF5
set_option linter.unusedVariables false
set_option linter.unusedSimpArgs false
namespace Go.Proofs.Ytionaenmjndncab
open Go.RowKit
def bcode (b c d t : Bool) : Int := if b then (if c then (if d then (if t then 0 else 3) else 2) else 2) else 1
set_option maxRecDepth 20000 in
set_option maxHeartbeats 2000000 in
theorem implBinomialOf_any (f : Nat → Int) (p i : Int) (P : Nat) (w : World) (hf : By f) (hP : Pr p → p = P) (b c d t : Bool) (hb : Good p [f] ↔ b = true) (hc : decide (-1 ≤ ((mkp 64 f).length : Int) - 1 ∧ ((mkp 64 f).length : Int) - 1 ≤ 6) = c) (hd : decide (0 ≤ i ∧ i ≤ 6) = d) (ht : AcFit p P (mkp 64 f) ↔ t = true) (A : List Int) (z : Bool) (hAe : acH p P (mkp 64 f) i.toNat = A) (hz : decide (i.toNat < (mkp 64 f).length) = z) :
    Calls Try.prog 19 #[.int .i64 p, .agg (u8s 64 f), .int .i64 i] w fun e w' => e = .returned (.tuple #[.agg (u8s 64 (if b && c && d && t && z then cf A else fun _ => 0)), .int .i64 (bcode b c d t)]) ∧ Below w.heap.size w w' := by
  have H1 := Lib.hid (fun w => degreeCode_any f p (-1) 6 w hf b c hb hc)
  have H2 := Lib.hid (fun w => implActionOf_any f p P w hf hP b c t hb hc ht)
  have hcH := Lib.hid hc
  obtain ⟨xs, hxs⟩ : ∃ xs, mkp 64 f = xs := ⟨_, rfl⟩
  rw [hxs] at H2 hcH hAe hz
  have hdH := Lib.hid hd
  obtain ⟨L, hL⟩ : ∃ L, xs.length = L := ⟨_, rfl⟩
  rw [hL] at H2 hcH hz
  have hL7 := Lib.hid (fun (h : c = true) => (by have := of_decide_eq_true (hcH.out.trans h); omega : L ≤ 7))
  obtain ⟨hb0, hA0, hZ0⟩ := boxes2 w (u8s 64 f) (u8s 64 fun _ => 0) 23 23
  have hzH := Lib.hid hz
  have hAeH := Lib.hid hAe
  clear hf hP hb hc hd ht hxs hL hcH hz hAe
  have hb := hb0
  have hA := hA0
  have hZ := hZ0
  clear hb0 hA0 hZ0
  go_enter Try.func19, Try.ntmps19
  go_wp2_with ((with_reducible refine wpl_guard ?_); first | (refine wpl_load_arr rfl 23 _ rfl _ rfl _ _ hA _ _ uPoly sPoly ?_) | (refine wpl_alloc_arr rfl 23 rfl _ zPoly ?_))
  refine (H1.out _).mono ?_
  rintro e y1 ⟨rfl, hn⟩
  replace hA := hA.keep hn
  replace hZ := hZ.keep hn
  replace hb := below_step hb hn
  clear hn
  cases b
  · have hg : (dcode false c == 0) = false := by cases c <;> rfl
    have hg2 : (dcode false c != 0) = true := by cases c <;> rfl
    go_wp2_with ((with_reducible refine wpl_guard ?_); first | (refine wpl_build_zero rfl 23 64 5 rfl _ uPoly sByte zPoly ?_) | (refine wpl_store_arr rfl 23 _ _ rfl _ rfl _ rfl _ _ hZ sPoly rfl (u8s_oneCell _ _) ?_))
    refine bodyPost_ret (res_ct rfl rfl (hZ.setRow_same (cs := u8s 64 fun _ => 0)) uPoly sPoly rfl) rfl ⟨rfl, below_setRow hb (by omega) _⟩
  · cases c
    · have hg : (dcode true false == 0) = false := by rfl
      have hg2 : (dcode true false != 0) = true := by rfl
      go_wp2_with ((with_reducible refine wpl_guard ?_); first | (refine wpl_build_zero rfl 23 64 5 rfl _ uPoly sByte zPoly ?_) | (refine wpl_store_arr rfl 23 _ _ rfl _ rfl _ rfl _ _ hZ sPoly rfl (u8s_oneCell _ _) ?_))
      refine bodyPost_ret (res_ct rfl rfl (hZ.setRow_same (cs := u8s 64 fun _ => 0)) uPoly sPoly rfl) rfl ⟨rfl, below_setRow hb (by omega) _⟩
    · have hg : (dcode true true == 0) = true := rfl
      have hg2 : (dcode true true != 0) = false := rfl
      cases d
      · go_wp2_with (first | (go_at_call 40; refine (within_any _ 0 6 _ false hdH.out).mono ?_; rintro e w4 ⟨rfl, rfl⟩) | (refine wpl_build_zero rfl 23 64 5 rfl _ uPoly sByte zPoly ?_) | (refine wpl_store_arr rfl 23 _ _ rfl _ rfl _ rfl _ _ hZ sPoly rfl (u8s_oneCell _ _) ?_))
        refine bodyPost_ret (res_ct rfl rfl (hZ.setRow_same (cs := u8s 64 fun _ => 0)) uPoly sPoly rfl) rfl ⟨rfl, below_setRow hb (by omega) _⟩
      · have hi := of_decide_eq_true hdH.out
        obtain ⟨n, rfl⟩ : ∃ n : Nat, i = n := ⟨i.toNat, by omega⟩
        have hL7c := hL7.out (by first | rfl | trivial)
        go_wp2_with (first | (go_at_call 40; refine (within_any _ 0 6 _ true hdH.out).mono ?_; rintro e w4 ⟨rfl, rfl⟩) | (refine wpl_load_arr rfl 23 _ rfl _ rfl _ _ hA _ _ uPoly sPoly ?_))
        refine (H2.out _).mono ?_
        rintro e y2 ⟨v, rfl, hP, hn⟩
        have hPH := Lib.hid hP
        replace hA := hA.keep hn
        replace hZ := hZ.keep hn
        replace hb := below_step hb hn
        clear hn
        clear hP
        cases t
        · have hac : (acode true true false != 0) = true := rfl
          go_wp2_with ((with_reducible refine wpl_guard ?_); first | (refine wpl_build_zero rfl 23 64 5 rfl _ uPoly sByte zPoly ?_) | (refine wpl_store_arr rfl 23 _ _ rfl _ rfl _ rfl _ _ hZ sPoly rfl (u8s_oneCell _ _) ?_))
          refine bodyPost_ret (res_ct rfl rfl (hZ.setRow_same (cs := u8s 64 fun _ => 0)) uPoly sPoly rfl) rfl ⟨rfl, below_setRow hb (by omega) _⟩
        · have hac : (acode true true true != 0) = false := rfl
          have hPL : PlS y2 _ v L (acH p P xs) := hPH.out
          obtain ⟨oa, cap, rfl⟩ := hPL.slice
          have hz := hzH.out
          have hAe := hAeH.out
          rw [Int.toNat_natCast] at hz hAe
          cases z
          · have hnd : (L : Int) ≤ (n : Int) := by have := of_decide_eq_false hz; omega
            clear hPL hPH hz hAe
            go_wp2_with ((with_reducible refine wpl_guard ?_); first | (refine wpl_build_zero rfl 23 64 5 rfl _ uPoly sByte zPoly ?_) | (refine wpl_store_arr rfl 23 _ _ rfl _ rfl _ rfl _ _ hZ sPoly rfl (u8s_oneCell _ _) ?_))
            refine bodyPost_ret (res_ct rfl rfl (hZ.setRow_same (cs := u8s 64 fun _ => 0)) uPoly sPoly rfl) rfl ⟨rfl, below_setRow hb (by omega) _⟩
          · have hn : n < L := of_decide_eq_true hz
            obtain ⟨gO, cO, e, _⟩ := hPL.form (by omega)
            rw [e] at hPL ⊢
            have hcl0 := hPL.cells n hn
            rw [hAe] at hcl0
            have hcl := Lib.hid hcl0
            clear hPL e hPH hz hAe hcl0
            have hnd : ¬ (L : Int) ≤ (n : Int) := by omega
            go_wp2_with ((with_reducible refine wpl_guard ?_); first | (refine wpl_load_mid rfl 23 _ rfl gO (n * 64) rfl 64 _ _ hcl.out uPoly sPoly ?_) | (refine wpl_store_arr rfl 23 _ _ rfl _ rfl (u8s 64 (cf A)) rfl _ _ hZ sPoly rfl (u8s_oneCell _ _) ?_))
            refine bodyPost_ret (res_ct rfl rfl (hZ.setRow_same (cs := u8s 64 (cf A))) uPoly sPoly rfl) rfl ⟨rfl, below_setRow hb (by omega) _⟩
set_option maxRecDepth 20000 in
set_option maxHeartbeats 2000000 in
theorem specBinomialOf_any (f : Nat → Int) (p i : Int) (P : Nat) (w : World) (hf : By f) (hP : Pr p → p = P) (b c d t : Bool) (hb : Good p [f] ↔ b = true) (hc : decide (-1 ≤ ((mkp 64 f).length : Int) - 1 ∧ ((mkp 64 f).length : Int) - 1 ≤ 6) = c) (hd : decide (0 ≤ i ∧ i ≤ 6) = d) (ht : AcFit p P (mkp 64 f) ↔ t = true) (A : List Int) (z : Bool) (hAe : acH p P (mkp 64 f) i.toNat = A) (hz : decide (i.toNat < (mkp 64 f).length) = z) :
    Calls Try.prog 18 #[.int .i64 p, .agg (u8s 64 f), .int .i64 i] w fun e w' => e = .returned (.tuple #[.agg (u8s 64 (if b && c && d && t && z then cf A else fun _ => 0)), .int .i64 (bcode b c d t)]) ∧ Below w.heap.size w w' := by
  have H1 := Lib.hid (fun w => l04Code_any f p w hf b c hb hc)
  have H2 := Lib.hid (fun (hbT : b = true) (hcT : c = true) w => by
    have hg := hb.2 hbT
    have hl := of_decide_eq_true (hc.trans hcT)
    have h := l04Action_any (mkp 64 f) p P w ⟨hg.1, hg.md (by simp) hf, mkp_length 64 f⟩ (hP hg.1) (by omega) t ht
    rw [← u8s_mkp] at h
    exact h)
  have hcH := Lib.hid hc
  obtain ⟨xs, hxs⟩ : ∃ xs, mkp 64 f = xs := ⟨_, rfl⟩
  rw [hxs] at H2 hcH hAe hz
  have hdH := Lib.hid hd
  obtain ⟨L, hL⟩ : ∃ L, xs.length = L := ⟨_, rfl⟩
  rw [hL] at H2 hcH hz
  have hL7 := Lib.hid (fun (h : c = true) => (by have := of_decide_eq_true (hcH.out.trans h); omega : L ≤ 7))
  obtain ⟨hb0, hA0, hZ0⟩ := boxes2 w (u8s 64 f) (u8s 64 fun _ => 0) 23 23
  have hzH := Lib.hid hz
  have hAeH := Lib.hid hAe
  clear hf hP hb hc hd ht hxs hL hcH hz hAe
  have hb := hb0
  have hA := hA0
  have hZ := hZ0
  clear hb0 hA0 hZ0
  go_enter Try.func18, Try.ntmps18
  go_wp2_with ((with_reducible refine wpl_guard ?_); first | (refine wpl_load_arr rfl 23 _ rfl _ rfl _ _ hA _ _ uPoly sPoly ?_) | (refine wpl_alloc_arr rfl 23 rfl _ zPoly ?_))
  refine (H1.out _).mono ?_
  rintro e y1 ⟨rfl, hn⟩
  replace hA := hA.keep hn
  replace hZ := hZ.keep hn
  replace hb := below_step hb hn
  clear hn
  cases b
  · have hg : (dcode false c == 0) = false := by cases c <;> rfl
    have hg2 : (dcode false c != 0) = true := by cases c <;> rfl
    go_wp2_with ((with_reducible refine wpl_guard ?_); first | (refine wpl_build_zero rfl 23 64 5 rfl _ uPoly sByte zPoly ?_) | (refine wpl_store_arr rfl 23 _ _ rfl _ rfl _ rfl _ _ hZ sPoly rfl (u8s_oneCell _ _) ?_))
    refine bodyPost_ret (res_ct rfl rfl (hZ.setRow_same (cs := u8s 64 fun _ => 0)) uPoly sPoly rfl) rfl ⟨rfl, below_setRow hb (by omega) _⟩
  · cases c
    · have hg : (dcode true false == 0) = false := by rfl
      have hg2 : (dcode true false != 0) = true := by rfl
      go_wp2_with ((with_reducible refine wpl_guard ?_); first | (refine wpl_build_zero rfl 23 64 5 rfl _ uPoly sByte zPoly ?_) | (refine wpl_store_arr rfl 23 _ _ rfl _ rfl _ rfl _ _ hZ sPoly rfl (u8s_oneCell _ _) ?_))
      refine bodyPost_ret (res_ct rfl rfl (hZ.setRow_same (cs := u8s 64 fun _ => 0)) uPoly sPoly rfl) rfl ⟨rfl, below_setRow hb (by omega) _⟩
    · have hg : (dcode true true == 0) = true := rfl
      have hg2 : (dcode true true != 0) = false := rfl
      cases d
      · go_wp2_with (first | (go_at_call 39; refine (l01In_any _ 0 6 _ false hdH.out).mono ?_; rintro e w4 ⟨rfl, rfl⟩) | (refine wpl_build_zero rfl 23 64 5 rfl _ uPoly sByte zPoly ?_) | (refine wpl_store_arr rfl 23 _ _ rfl _ rfl _ rfl _ _ hZ sPoly rfl (u8s_oneCell _ _) ?_))
        refine bodyPost_ret (res_ct rfl rfl (hZ.setRow_same (cs := u8s 64 fun _ => 0)) uPoly sPoly rfl) rfl ⟨rfl, below_setRow hb (by omega) _⟩
      · have hi := of_decide_eq_true hdH.out
        obtain ⟨n, rfl⟩ : ∃ n : Nat, i = n := ⟨i.toNat, by omega⟩
        have hL7c := hL7.out (by first | rfl | trivial)
        go_wp2_with (first | (go_at_call 39; refine (l01In_any _ 0 6 _ true hdH.out).mono ?_; rintro e w4 ⟨rfl, rfl⟩) | (refine wpl_load_arr rfl 23 _ rfl _ rfl _ _ hA _ _ uPoly sPoly ?_))
        refine (H2.out (by first | rfl | trivial) (by first | rfl | trivial) _).mono ?_
        rintro e y2 ⟨v, rfl, hP, hn⟩
        have hPH := Lib.hid hP
        replace hA := hA.keep hn
        replace hZ := hZ.keep hn
        replace hb := below_step hb hn
        clear hn
        clear hP
        cases t
        · have hac : (acode true true false != 0) = true := rfl
          go_wp2_with ((with_reducible refine wpl_guard ?_); first | (refine wpl_build_zero rfl 23 64 5 rfl _ uPoly sByte zPoly ?_) | (refine wpl_store_arr rfl 23 _ _ rfl _ rfl _ rfl _ _ hZ sPoly rfl (u8s_oneCell _ _) ?_))
          refine bodyPost_ret (res_ct rfl rfl (hZ.setRow_same (cs := u8s 64 fun _ => 0)) uPoly sPoly rfl) rfl ⟨rfl, below_setRow hb (by omega) _⟩
        · have hac : (acode true true true != 0) = false := rfl
          have hPL : PlS y2 _ v L (acH p P xs) := hPH.out
          obtain ⟨oa, cap, rfl⟩ := hPL.slice
          have hz := hzH.out
          have hAe := hAeH.out
          rw [Int.toNat_natCast] at hz hAe
          cases z
          · have hnd : (L : Int) ≤ (n : Int) := by have := of_decide_eq_false hz; omega
            clear hPL hPH hz hAe
            go_wp2_with ((with_reducible refine wpl_guard ?_); first | (refine wpl_build_zero rfl 23 64 5 rfl _ uPoly sByte zPoly ?_) | (refine wpl_store_arr rfl 23 _ _ rfl _ rfl _ rfl _ _ hZ sPoly rfl (u8s_oneCell _ _) ?_))
            refine bodyPost_ret (res_ct rfl rfl (hZ.setRow_same (cs := u8s 64 fun _ => 0)) uPoly sPoly rfl) rfl ⟨rfl, below_setRow hb (by omega) _⟩
          · have hn : n < L := of_decide_eq_true hz
            obtain ⟨gO, cO, e, _⟩ := hPL.form (by omega)
            rw [e] at hPL ⊢
            have hcl0 := hPL.cells n hn
            rw [hAe] at hcl0
            have hcl := Lib.hid hcl0
            clear hPL e hPH hz hAe hcl0
            have hnd : ¬ (L : Int) ≤ (n : Int) := by omega
            go_wp2_with ((with_reducible refine wpl_guard ?_); first | (refine wpl_load_mid rfl 23 _ rfl gO (n * 64) rfl 64 _ _ hcl.out uPoly sPoly ?_) | (refine wpl_store_arr rfl 23 _ _ rfl _ rfl (u8s 64 (cf A)) rfl _ _ hZ sPoly rfl (u8s_oneCell _ _) ?_))
            refine bodyPost_ret (res_ct rfl rfl (hZ.setRow_same (cs := u8s 64 (cf A))) uPoly sPoly rfl) rfl ⟨rfl, below_setRow hb (by omega) _⟩
theorem BinomialOf_pair (p : Int) (f : Nat → Int) (i : Int) (_ : (Lit.int .i64 p).wf = true) (hf : By f) (_ : (Lit.int .i64 i).wf = true) : ∃ (r0 : Nat → Int) (r1 : Int),
    (∀ w, Calls Try.prog 18 #[.int .i64 p, .agg (u8s 64 f), .int .i64 i] w fun e w' => e = .returned (.tuple #[.agg (u8s 64 r0), .int .i64 r1]) ∧ Below w.heap.size w w') ∧
    (∀ w, Calls Try.prog 19 #[.int .i64 p, .agg (u8s 64 f), .int .i64 i] w fun e w' => e = .returned (.tuple #[.agg (u8s 64 r0), .int .i64 r1]) ∧ Below w.heap.size w w') := by
  obtain ⟨b, hb⟩ := dec_true (Good p [f])
  obtain ⟨t, ht⟩ := dec_true (AcFit p p.toNat (mkp 64 f))
  have hP : Pr p → p = (p.toNat : Int) := fun h => by have := h.pos; omega
  exact ⟨_, _, fun w => specBinomialOf_any f p i p.toNat w hf hP b _ _ t hb rfl rfl ht _ _ rfl rfl, fun w => implBinomialOf_any f p i p.toNat w hf hP b _ _ t hb rfl rfl ht _ _ rfl rfl⟩
end Go.Proofs.Ytionaenmjndncab

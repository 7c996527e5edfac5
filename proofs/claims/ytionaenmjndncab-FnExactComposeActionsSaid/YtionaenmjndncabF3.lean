/- Walks: the program's ActionOf; codes of polynomials whose degree is bounded. -/
import Derived.Test.YtionaenmjndncabF2
set_option linter.unusedVariables false
set_option linter.unusedSimpArgs false
namespace Go.Proofs.Ytionaenmjndncab
open Go.RowKit
def dcode (b c : Bool) : Int := if b then (if c then 0 else 2) else 1
set_option maxRecDepth 20000 in
set_option maxHeartbeats 1000000 in
theorem degreeCode_any (f : Nat → Int) (p lo hi : Int) (w : World) (hf : By f) (b c : Bool) (hb : Good p [f] ↔ b = true) (hc : decide (lo ≤ ((mkp 64 f).length : Int) - 1 ∧ ((mkp 64 f).length : Int) - 1 ≤ hi) = c) :
    Calls Try.prog 36 #[.int .i64 p, .agg (u8s 64 f), .int .i64 lo, .int .i64 hi] w fun e w' => e = .returned (.int .i64 (dcode b c)) ∧ Below w.heap.size w w' := by
  have hfH := Lib.hid hf; clear hf
  have hbH := Lib.hid hb; clear hb
  have hB := Blk.new w (u8s 64 f) 23
  have hb0 := below_new w (.cells (u8s 64 f) 23)
  obtain ⟨L, hL⟩ : ∃ L, (mkp 64 f).length = L := ⟨_, rfl⟩
  have h3 := fun v w (h : IsRow w v (mkp 64 f)) => degree_any v (mkp 64 f) w h
  rw [hL] at h3 hc
  have h3H := Lib.hid h3
  have hcH := Lib.hid hc
  have hL64 : L ≤ 64 := hL ▸ mkp_length 64 f
  clear hL h3 hc
  go_enter Try.func36, Try.ntmps36
  go_wp2_with (first | (refine wpl_load_arr rfl 23 _ rfl _ rfl _ _ hB _ _ uPoly sPoly ?_) | (refine wpl_buildSlice_polys rfl 29 23 1 _ rfl Try.underlying29 sPoly zPoly [f] rfl (by decide) (by decide) rfl ?_))
  refine (polysCode_lit [f] 1 64 rfl rfl (by omega) p _ _ _ (Blk.newAt (size_alloc _ _).symm _ _) (by1 hfH.out) b hbH.out).mono ?_
  rintro e w1 ⟨rfl, hb1⟩
  have hb2 := below_step hb0 (below_step (below_new _ _) hb1)
  have hB1 := (hB.alloc _).keep hb1
  clear hB hb0 hb1
  cases b
  · go_wp2_with fail
    go_ret
    exact ⟨rfl, hb2⟩
  · go_wp2_with (first | (refine wpl_load_arr rfl 23 _ rfl _ rfl _ _ hB1 _ _ uPoly sPoly ?_))
    refine (rowOf_any f _ hfH.out.on).mono ?_
    rintro e w2 ⟨v, rfl, hr, hb3⟩
    have hb4 := below_step hb2 hb3
    have hrH := Lib.hid hr
    clear hb2 hb3 hr hB1
    go_wp2_with fail
    refine (h3H.out v _ hrH.out).mono ?_
    rintro e w3 ⟨rfl, rfl⟩
    cases c
    · go_wp2_with (go_at_call 40; refine (within_any _ lo hi _ false hcH.out).mono ?_; rintro e w4 ⟨rfl, rfl⟩)
      go_ret
      exact ⟨rfl, hb4⟩
    · go_wp2_with (go_at_call 40; refine (within_any _ lo hi _ true hcH.out).mono ?_; rintro e w4 ⟨rfl, rfl⟩)
      go_ret
      exact ⟨rfl, hb4⟩
set_option maxRecDepth 20000 in
set_option maxHeartbeats 1000000 in
theorem l02Degree_any (f : Nat → Int) (p lo hi : Int) (w : World) (hf : By f) (b c : Bool) (hb : Good p [f] ↔ b = true) (hc : decide (lo ≤ ((mkp 64 f).length : Int) - 1 ∧ ((mkp 64 f).length : Int) - 1 ≤ hi) = c) :
    Calls Try.prog 69 #[.int .i64 p, .agg (u8s 64 f), .int .i64 lo, .int .i64 hi] w fun e w' => e = .returned (.int .i64 (dcode b c)) ∧ Below w.heap.size w w' := by
  have hfH := Lib.hid hf; clear hf
  have hbH := Lib.hid hb; clear hb
  have hB := Blk.new w (u8s 64 f) 23
  have hb0 := below_new w (.cells (u8s 64 f) 23)
  obtain ⟨L, hL⟩ : ∃ L, (mkp 64 f).length = L := ⟨_, rfl⟩
  have h3 := fun w => l01Deg_any f w hfH.out.on
  rw [hL] at h3 hc
  have h3H := Lib.hid h3
  have hcH := Lib.hid hc
  have hL64 : L ≤ 64 := hL ▸ mkp_length 64 f
  clear hL h3 hc
  go_enter Try.func69, Try.ntmps69
  go_wp2_with (first | (refine wpl_load_arr rfl 23 _ rfl _ rfl _ _ hB _ _ uPoly sPoly ?_) | (refine wpl_buildSlice_polys rfl 29 23 1 _ rfl Try.underlying29 sPoly zPoly [f] rfl (by decide) (by decide) rfl ?_))
  refine (l01Code_lit [f] 1 64 rfl rfl (by omega) p _ _ _ (Blk.newAt (size_alloc _ _).symm _ _) (by1 hfH.out) b hbH.out).mono ?_
  rintro e w1 ⟨rfl, hb1⟩
  have hb2 := below_step hb0 (below_step (below_new _ _) hb1)
  have hB1 := (hB.alloc _).keep hb1
  clear hB hb0 hb1
  cases b
  · go_wp2_with fail
    go_ret
    exact ⟨rfl, hb2⟩
  · go_wp2_with (first | (refine wpl_load_arr rfl 23 _ rfl _ rfl _ _ hB1 _ _ uPoly sPoly ?_))
    refine (h3H.out _).mono ?_
    rintro e w2 ⟨rfl, hb3⟩
    have hb4 := below_step hb2 hb3
    clear hb2 hb3 hB1
    cases c
    · go_wp2_with (go_at_call 39; refine (l01In_any _ lo hi _ false hcH.out).mono ?_; rintro e w4 ⟨rfl, rfl⟩)
      go_ret
      exact ⟨rfl, hb4⟩
    · go_wp2_with (go_at_call 39; refine (l01In_any _ lo hi _ true hcH.out).mono ?_; rintro e w4 ⟨rfl, rfl⟩)
      go_ret
      exact ⟨rfl, hb4⟩
theorem l04Code_any (f : Nat → Int) (p : Int) (w : World) (hf : By f) (b c : Bool) (hb : Good p [f] ↔ b = true) (hc : decide (-1 ≤ ((mkp 64 f).length : Int) - 1 ∧ ((mkp 64 f).length : Int) - 1 ≤ 6) = c) :
    Calls Try.prog 34 #[.int .i64 p, .agg (u8s 64 f)] w fun e w' => e = .returned (.int .i64 (dcode b c)) ∧ Below w.heap.size w w' := by
  have H1 := Lib.hid (fun w => l02Degree_any f p (-1) 6 w hf b c hb hc)
  have hB := Blk.new w (u8s 64 f) 23
  have hb0 := below_new w (.cells (u8s 64 f) 23)
  clear hf hb hc
  go_enter Try.func34, Try.ntmps34
  go_wp2_with (first | (refine wpl_load_arr rfl 23 _ rfl _ rfl _ _ hB _ _ uPoly sPoly ?_))
  refine (H1.out _).mono ?_
  rintro e w1 ⟨rfl, hb1⟩
  go_wp2_with fail
  go_ret
  exact ⟨rfl, below_step hb0 hb1⟩
/-- All binomials fit. -/
def AcFit (p : Int) (P : Nat) (xs : List Int) : Prop := ∀ k, k < xs.length → (acH p P xs k).length ≤ 64
def acode (b c t : Bool) : Int := if b then (if c then (if t then 0 else 3) else 2) else 1
set_option maxRecDepth 20000 in
set_option maxHeartbeats 1000000 in
theorem implActionOf_any (f : Nat → Int) (p : Int) (P : Nat) (w : World) (hf : By f) (hP : Pr p → p = P) (b c t : Bool) (hb : Good p [f] ↔ b = true) (hc : decide (-1 ≤ ((mkp 64 f).length : Int) - 1 ∧ ((mkp 64 f).length : Int) - 1 ≤ 6) = c)
    (ht : AcFit p P (mkp 64 f) ↔ t = true) :
    Calls Try.prog 14 #[.int .i64 p, .agg (u8s 64 f)] w fun e w' => ∃ v, e = .returned (.tuple #[v, .int .i64 (acode b c t)]) ∧ PlS w' w.heap.size v (if b && c && t then (mkp 64 f).length else 0) (acH p P (mkp 64 f)) ∧ Below w.heap.size w w' := by
  have H1 := Lib.hid (fun w => degreeCode_any f p (-1) 6 w hf b c hb hc)
  have hB := Blk.new w (u8s 64 f) 23
  have hb0 := below_new w (.cells (u8s 64 f) 23)
  have hrow0 := fun w => rowOf_any f w hf.on
  have hPo0 : Good p [f] → Po p (mkp 64 f) := fun h => h.md (by simp) hf
  obtain ⟨xs, hxs⟩ : ∃ xs, mkp 64 f = xs := ⟨_, rfl⟩
  rw [hxs] at hrow0 hPo0 hc ht ⊢
  have hrow := Lib.hid hrow0
  have hPoH := Lib.hid hPo0
  have hbH := Lib.hid hb
  have hcH := Lib.hid hc
  have hPH := Lib.hid hP
  have htH := Lib.hid ht
  clear hf hb hc hP ht hrow0 hPo0 hxs
  go_enter Try.func14, Try.ntmps14
  go_wp2_with (first | (refine wpl_load_arr rfl 23 _ rfl _ rfl _ _ hB _ _ uPoly sPoly ?_))
  refine (H1.out _).mono ?_
  rintro e w1 ⟨rfl, hb1⟩
  have hb2 := below_step hb0 hb1
  have hB1 := hB.keep hb1
  clear hB hb0 hb1
  cases b
  · go_wp2_with fail
    go_ret2
    exact ⟨_, rfl, World.ownsRow_nil _ _ _ _, hb2⟩
  · cases c
    · go_wp2_with fail
      go_ret2
      exact ⟨_, rfl, World.ownsRow_nil _ _ _ _, hb2⟩
    · have hpr := (hbH.out.2 rfl).1
      have hlen := of_decide_eq_true hcH.out
      have hPo := hPoH.out (hbH.out.2 rfl)
      have hl7 : xs.length ≤ 7 := by omega
      have H2 := Lib.hid (fun v w (h : IsRow w v xs) => actions_any v xs p P w hpr (hPH.out hpr) h hPo hl7)
      have H3 := Lib.hid (fun v R B w (h : RwB w B 48 v xs.length R (acH p P xs)) => toldAll_any v xs.length R (acH p P xs) w (by omega) h.c (fun k _ i => by have := cf_lt7 hpr (acH_Po hpr.pos.1 P xs k).md i; omega) t htH.out)
      clear hpr hlen hPo hl7
      cases t
      · go_wp2_with (first | (refine wpl_load_arr rfl 23 _ rfl _ rfl _ _ hB1 _ _ uPoly sPoly ?_))
        refine (hrow.out _).mono ?_
        rintro e w2 ⟨v, rfl, hr, hb3⟩
        have hb4 := below_step hb2 hb3
        have hrH := Lib.hid hr
        clear hb2 hb3 hr hB1
        go_wp2_with fail
        refine (H2.out v _ hrH.out).mono ?_
        rintro e w3 ⟨v3, R, rfl, hR, hb5⟩
        have hb6 := below_step hb4 hb5
        have hRH := Lib.hid hR
        clear hb4 hb5 hR
        go_wp2_with fail
        refine (H3.out v3 R _ _ hRH.out).mono ?_
        rintro e w4 ⟨v4, rfl, hP4, hb7⟩
        have hP4H := Lib.hid hP4
        clear hP4
        go_wp2_with fail
        go_ret2
        exact ⟨_, rfl, owns_mono' hP4H.out hb6.size, below_step hb6 hb7⟩
      · go_wp2_with (first | (refine wpl_load_arr rfl 23 _ rfl _ rfl _ _ hB1 _ _ uPoly sPoly ?_))
        refine (hrow.out _).mono ?_
        rintro e w2 ⟨v, rfl, hr, hb3⟩
        have hb4 := below_step hb2 hb3
        have hrH := Lib.hid hr
        clear hb2 hb3 hr hB1
        go_wp2_with fail
        refine (H2.out v _ hrH.out).mono ?_
        rintro e w3 ⟨v3, R, rfl, hR, hb5⟩
        have hb6 := below_step hb4 hb5
        have hRH := Lib.hid hR
        clear hb4 hb5 hR
        go_wp2_with fail
        refine (H3.out v3 R _ _ hRH.out).mono ?_
        rintro e w4 ⟨v4, rfl, hP4, hb7⟩
        have hP4H := Lib.hid hP4
        clear hP4
        go_wp2_with fail
        go_ret2
        exact ⟨_, rfl, owns_mono' hP4H.out hb6.size, below_step hb6 hb7⟩
end Go.Proofs.Ytionaenmjndncab

/- Walks: ValueAt and DerivativeOf on both sides. -/
import Derived.Test.YtkkgbdgialpcaaaW8
import Derived.StillTailTactics
namespace Go.Proofs.Ytkkgbdgialpcaaa
open Go.RowKit

theorem good_pr {p : Int} {fs : List (Nat → Int)} (h : Good p fs) : Pr p := h.1
theorem dec_true (P : Prop) : ∃ b : Bool, P ↔ b = true := by
  by_cases h : P
  · exact ⟨true, by simp [h]⟩
  · exact ⟨false, by simp [h]⟩
theorem mkp_By {f : Nat → Int} (hf : By f) (n : Nat) : ∀ i, 0 ≤ cf (mkp n f) i ∧ cf (mkp n f) i ≤ 255 := fun i => by
  rw [mkp_cf]; split
  · exact hf i
  · omega

theorem specValueAt_any (f : Nat → Int) (p x : Int) (w : World) (hf : By f) (b c : Bool) (hb : Good p [f] ↔ b = true) (hc : decide (0 ≤ x ∧ x ≤ p - 1) = c) :
    Calls Try.prog 33 #[.int .i64 p, .agg (u8s 64 f), .int .i64 x] w fun e w' => e = .returned (.tuple #[.int .i64 (if b && c then ev p x (mkp 64 f) else 0), .int .i64 (if b then (if c then 0 else 2) else 1)]) ∧ Below w.heap.size w w' := by
  have hfH := Lib.hid hf; clear hf
  have hbH := Lib.hid hb; clear hb
  have hcH := Lib.hid hc; clear hc
  have hB := Blk.new w (u8s 64 f) 25
  have hb0 := below_new w (.cells (u8s 64 f) 25)
  go_enter Try.func33, Try.ntmps33
  go_wp2_with (first | (refine wpl_load_arr rfl 25 _ rfl _ rfl _ _ hB _ _ uPoly sPoly ?_) | (refine wpl_buildSlice_polys rfl 93 25 1 _ rfl Try.underlying93 sPoly zPoly [f] rfl (by decide) (by decide) rfl ?_))
  refine (l01Code_lit [f] 1 64 rfl rfl (by omega) p _ _ _ (Blk.newAt (size_alloc _ _).symm _ _) (by1 hfH.out) b hbH.out).mono ?_
  rintro e w1 ⟨rfl, hb1⟩
  have hb2 := below_step hb0 (below_step (below_new _ _) hb1)
  have hB1 := (hB.alloc _).keep hb1
  clear hB hb0 hb1
  cases b
  · go_wp2_with fail
    go_ret2
    exact ⟨rfl, hb2⟩
  · have hp := (hbH.out.2 rfl).1
    have hp1 := hp.pos.1
    have hp2 := hp.pos.2
    have hpH := Lib.hid hp
    clear hp
    cases c
    · go_wp2_with (go_at_call 52; refine (l01In_any _ _ _ _ false hcH.out).mono ?_; rintro e w' ⟨rfl, rfl⟩)
      go_ret2
      exact ⟨rfl, hb2⟩
    · have hx := of_decide_eq_true hcH.out
      have hxH := Lib.hid hx
      clear hx
      go_wp2_with (first | (go_at_call 52; refine (l01In_any _ _ _ _ true hcH.out).mono ?_; rintro e w' ⟨rfl, rfl⟩) | (refine wpl_load_arr rfl 25 _ rfl _ rfl _ _ hB1 _ _ uPoly sPoly ?_))
      refine (l01Point_any f p x _ hpH.out hfH.out hxH.out.1 (by have := hxH.out.2; omega)).mono ?_
      rintro e w2 ⟨rfl, hb3⟩
      go_wp2_with fail
      go_ret2
      refine ⟨?_, below_step hb2 hb3⟩
      rw [mkp, ev_trim]; rfl

theorem implValueAt_any (f : Nat → Int) (p x : Int) (w : World) (hf : By f) (b c : Bool) (hb : Good p [f] ↔ b = true) (hc : decide (0 ≤ x ∧ x ≤ p - 1) = c) :
    Calls Try.prog 34 #[.int .i64 p, .agg (u8s 64 f), .int .i64 x] w fun e w' => e = .returned (.tuple #[.int .i64 (if b && c then ev p x (mkp 64 f) else 0), .int .i64 (if b then (if c then 0 else 2) else 1)]) ∧ Below w.heap.size w w' := by
  have hfH := Lib.hid hf; clear hf
  have hbH := Lib.hid hb; clear hb
  have hcH := Lib.hid hc; clear hc
  have hB := Blk.new w (u8s 64 f) 25
  have hb0 := below_new w (.cells (u8s 64 f) 25)
  go_enter Try.func34, Try.ntmps34
  go_wp2_with (first | (refine wpl_load_arr rfl 25 _ rfl _ rfl _ _ hB _ _ uPoly sPoly ?_) | (refine wpl_buildSlice_polys rfl 93 25 1 _ rfl Try.underlying93 sPoly zPoly [f] rfl (by decide) (by decide) rfl ?_))
  refine (polysCode_lit [f] 1 64 rfl rfl (by omega) p _ _ _ (Blk.newAt (size_alloc _ _).symm _ _) (by1 hfH.out) b hbH.out).mono ?_
  rintro e w1 ⟨rfl, hb1⟩
  have hb2 := below_step hb0 (below_step (below_new _ _) hb1)
  have hB1 := (hB.alloc _).keep hb1
  clear hB hb0 hb1
  cases b
  · go_wp2_with fail
    go_ret2
    exact ⟨rfl, hb2⟩
  · have hp := (hbH.out.2 rfl).1
    have hp1 := hp.pos.1
    have hp2 := hp.pos.2
    have hpH := Lib.hid hp
    clear hp
    cases c
    · go_wp2_with (go_at_call 49; refine (within_any _ _ _ _ false hcH.out).mono ?_; rintro e w' ⟨rfl, rfl⟩)
      go_ret2
      exact ⟨rfl, hb2⟩
    · have hx := of_decide_eq_true hcH.out
      have hxH := Lib.hid hx
      clear hx
      go_wp2_with (first | (go_at_call 49; refine (within_any _ _ _ _ true hcH.out).mono ?_; rintro e w' ⟨rfl, rfl⟩) | (refine wpl_load_arr rfl 25 _ rfl _ rfl _ _ hB1 _ _ uPoly sPoly ?_))
      refine (rowOf_any f _ hfH.out.on).mono ?_
      rintro e w2 ⟨v, rfl, hrow, hb3⟩
      go_wp2_with fail
      refine (value_any v _ p x _ hpH.out hrow (mkp_By hfH.out 64) hxH.out.1 (by have := hxH.out.2; omega)).mono ?_
      rintro e w3 ⟨rfl, rfl⟩
      go_wp2_with fail
      go_ret2
      exact ⟨rfl, below_step hb2 hb3⟩

theorem ValueAt_pair (p : Int) (f : Nat → Int) (x : Int) (_ : (Lit.int .i64 p).wf = true) (hf : By f) (_ : (Lit.int .i64 x).wf = true) : ∃ r0 r1 : Int,
    (∀ w, Calls Try.prog 33 #[.int .i64 p, .agg (u8s 64 f), .int .i64 x] w fun e w' => e = .returned (.tuple #[.int .i64 r0, .int .i64 r1]) ∧ Below w.heap.size w w') ∧
    (∀ w, Calls Try.prog 34 #[.int .i64 p, .agg (u8s 64 f), .int .i64 x] w fun e w' => e = .returned (.tuple #[.int .i64 r0, .int .i64 r1]) ∧ Below w.heap.size w w') := by
  obtain ⟨b, hb⟩ := dec_true (Good p [f])
  exact ⟨_, _, fun w => specValueAt_any f p x w hf b _ hb rfl, fun w => implValueAt_any f p x w hf b _ hb rfl⟩

/-- A coefficient of the derivative. -/
def derF (p : Int) (f : Nat → Int) (j : Nat) : Int := if j < 63 then (((j : Int) + 1) * f (j + 1)) % p else 0
theorem mod_small {p n : Int} (hp1 : 2 ≤ p) (hp2 : p ≤ 7) : 0 ≤ n % p ∧ n % p ≤ 6 := by
  have h1 := Int.emod_nonneg n (show p ≠ 0 by omega)
  have h2 := Int.emod_lt_of_pos n (show 0 < p by omega)
  omega

theorem implDerivativeOf_any (f : Nat → Int) (p : Int) (w : World) (hf : By f) (b : Bool) (hb : Good p [f] ↔ b = true) :
    Calls Try.prog 24 #[.int .i64 p, .agg (u8s 64 f)] w fun e w' => e = .returned (.tuple #[.agg (u8s 64 (if b then derF p f else fun _ => 0)), .int .i64 (codeOf b)]) ∧ Below w.heap.size w w' := by
  have hfH := Lib.hid hf; clear hf
  have hbH := Lib.hid hb; clear hb
  obtain ⟨hb0, hB, hZ⟩ := boxes2 w (u8s 64 f) (u8s 64 fun _ => 0) 25 25
  go_enter Try.func24, Try.ntmps24
  go_wp2_with (first | (refine wpl_alloc_arr rfl 25 rfl _ zPoly ?_) | (refine wpl_load_arr rfl 25 _ rfl _ rfl _ _ hB _ _ uPoly sPoly ?_) | (refine wpl_buildSlice_polys rfl 93 25 1 _ rfl Try.underlying93 sPoly zPoly [f] rfl (by decide) (by decide) rfl ?_))
  refine (polysCode_lit [f] 1 64 rfl rfl (by omega) p _ _ _ (Blk.newAt (by simp) _ _) (by1 hfH.out) b hbH.out).mono ?_
  rintro e w1 ⟨rfl, hb1⟩
  have hb2 := below_step hb0 (below_step (below_new _ _) hb1)
  have hB1 := (hB.alloc _).keep hb1
  have hZ1 := (hZ.alloc _).keep hb1
  clear hB hZ hb0 hb1
  cases b
  · go_wp2_with (first | (refine wpl_build_zero rfl 25 64 5 rfl _ uPoly sByte zPoly ?_) | (refine wpl_store_arr rfl 25 _ _ rfl _ rfl _ rfl _ _ hZ1 sPoly rfl (u8s_oneCell _ _) ?_))
    refine bodyPost_ret (res_ct rfl rfl (hZ1.setRow_same (cs := u8s 64 fun _ => 0)) uPoly sPoly rfl) rfl ⟨rfl, below_setRow hb2 (by omega) _⟩
  · have hp := (hbH.out.2 rfl).1
    have hp1 := hp.pos.1
    have hp2 := hp.pos.2
    have hpz : (p == 0) = false := by rw [beq_eq_false_iff_ne]; omega
    clear hp
    go_wp2_with (first | (refine wpl_alloc_arr rfl 25 rfl _ zPoly ?_))
    go_loopw [8] (fun i wr => ∃ k : Nat, 1 ≤ k ∧ k ≤ 64 ∧ i = .int .i64 k ∧ Blk wr w.heap.size (u8s 64 f) 25 ∧ Blk wr (w.heap.size + 1) (u8s 64 fun _ => 0) 25 ∧
      Blk wr w1.heap.size (u8s 64 fun j => if j + 1 < k then derF p f j else 0) 25 ∧ Below w.heap.size w wr) (fun i _ => 64 - (intOf i).toNat)
    case atStart => exact ⟨1, by omega, by omega, rfl, hB1.alloc _, hZ1.alloc _, (Blk.new w1 _ _).cast (u8s_ext fun j _ => by simp), hb2.alloc hb2.size _⟩
    case round =>
      obtain ⟨k, hk0, hk, rfl, b0, b1, b2, hb⟩ := hrel
      have hws := hB1.lt
      have hws2 := hZ1.lt
      clear hB1 hZ1
      by_cases hlt : k < 64
      · obtain ⟨m, rfl⟩ : ∃ m, k = m + 1 := ⟨k - 1, by omega⟩
        have c0 : wr.cell? ⟨w.heap.size, m + 1, none⟩ = some (.int .u8 (f (m + 1))) := by rw [b0.cell, u8s_get _ hlt]
        have c1 : wr.cell? ⟨w1.heap.size, m, none⟩ = some (.int .u8 0) := by rw [b2.cell, u8s_get _ (by omega)]; simp
        have c2 := b2.free m
        have hz := hfH.out (m + 1)
        have hz1 := hz.1
        have hz2 := hz.2
        have hm0 : 0 ≤ ((m + 1 : Nat) : Int) * f (m + 1) := Int.mul_nonneg (by omega) hz1
        have hm1 : ((m + 1 : Nat) : Int) * f (m + 1) ≤ 100000 := by
          have := Int.mul_le_mul_of_nonneg_right (show ((m + 1 : Nat) : Int) ≤ 64 by omega) hz1
          omega
        have hr := mod_small (n := ((m + 1 : Nat) : Int) * f (m + 1)) hp1 hp2
        have hr0 := hr.1
        have hr1 := hr.2
        clear hz hr
        simp only [Int.natCast_add, Int.natCast_one] at hm0 hm1 hr0 hr1
        go_wp2_with fail
        go_roundw
        case rel =>
          refine ⟨m + 1 + 1, by omega, by omega, by go_num, b0.set_other _ _ (by simp; omega), b1.set_other _ _ (by simp; omega), ?_, hb.setCell (by simp; omega) _⟩
          refine (b2.set m _).cast ?_
          rw [u8s_set]; apply u8s_ext; intro j hj
          by_cases e1 : j = m
          · subst e1; simp [derF, show j < 63 by omega]
          · by_cases e2 : j + 1 < m + 1
            · simp [e1, show j < m by omega, show j < m + 1 by omega]
            · simp [e1, show ¬ j < m by omega, show ¬ j < m + 1 by omega]
        case measure => simp [intOf] <;> omega
      · obtain rfl : k = 64 := by omega
        go_wp2_with (first | (refine wpl_load_arr rfl 25 _ rfl _ rfl _ _ b2 _ _ uPoly sPoly ?_) | (refine wpl_store_arr rfl 25 _ _ rfl _ rfl _ rfl _ _ b1 sPoly rfl (u8s_oneCell _ _) ?_))
        refine bodyPost_ret (res_ct rfl rfl (b1.setRow_same (cs := u8s 64 fun j => if j + 1 < 64 then derF p f j else 0)) uPoly sPoly rfl) rfl ⟨?_, below_setRow hb (by omega) _⟩
        rw [u8s_ext (g := derF p f) fun j hj => by
          by_cases e : j + 1 < 64
          · rw [if_pos e]
          · rw [if_neg e]; unfold derF; rw [if_neg (by omega)]]
        rfl

theorem der_same (p : Int) (m : Int) (x : Int) : (m % p * x) % p = (m * x) % p := by rw [Int.mul_emod, Int.emod_emod_of_dvd _ (Int.dvd_refl p), ← Int.mul_emod]

theorem specDerivativeOf_any (f : Nat → Int) (p : Int) (w : World) (hf : By f) (b : Bool) (hb : Good p [f] ↔ b = true) :
    Calls Try.prog 23 #[.int .i64 p, .agg (u8s 64 f)] w fun e w' => e = .returned (.tuple #[.agg (u8s 64 (if b then derF p f else fun _ => 0)), .int .i64 (codeOf b)]) ∧ Below w.heap.size w w' := by
  have hfH := Lib.hid hf; clear hf
  have hbH := Lib.hid hb; clear hb
  obtain ⟨hb0, hB, hZ⟩ := boxes2 w (u8s 64 f) (u8s 64 fun _ => 0) 25 25
  go_enter Try.func23, Try.ntmps23
  go_wp2_with (first | (refine wpl_alloc_arr rfl 25 rfl _ zPoly ?_) | (refine wpl_load_arr rfl 25 _ rfl _ rfl _ _ hB _ _ uPoly sPoly ?_) | (refine wpl_buildSlice_polys rfl 93 25 1 _ rfl Try.underlying93 sPoly zPoly [f] rfl (by decide) (by decide) rfl ?_))
  refine (l01Code_lit [f] 1 64 rfl rfl (by omega) p _ _ _ (Blk.newAt (by simp) _ _) (by1 hfH.out) b hbH.out).mono ?_
  rintro e w1 ⟨rfl, hb1⟩
  have hb2 := below_step hb0 (below_step (below_new _ _) hb1)
  have hB1 := (hB.alloc _).keep hb1
  have hZ1 := (hZ.alloc _).keep hb1
  clear hB hZ hb0 hb1
  cases b
  · go_wp2_with (first | (refine wpl_build_zero rfl 25 64 5 rfl _ uPoly sByte zPoly ?_) | (refine wpl_store_arr rfl 25 _ _ rfl _ rfl _ rfl _ _ hZ1 sPoly rfl (u8s_oneCell _ _) ?_))
    refine bodyPost_ret (res_ct rfl rfl (hZ1.setRow_same (cs := u8s 64 fun _ => 0)) uPoly sPoly rfl) rfl ⟨rfl, below_setRow hb2 (by omega) _⟩
  · have hp := (hbH.out.2 rfl).1
    have hp1 := hp.pos.1
    have hp2 := hp.pos.2
    have hpz : (p == 0) = false := by rw [beq_eq_false_iff_ne]; omega
    clear hp
    go_wp2_with (first | (refine wpl_build_zero rfl 25 64 5 rfl _ uPoly sByte zPoly ?_) | (refine wpl_alloc_arr rfl 25 rfl _ zPoly ?_) | (refine wpl_store_new rfl 25 _ _ rfl _ rfl rfl _ rfl sPoly rfl (u8s_oneCell _ _) ?_))
    go_loopw [8] (fun i wr => ∃ k : Nat, 1 ≤ k ∧ k ≤ 64 ∧ i = .int .i64 k ∧ Blk wr w.heap.size (u8s 64 f) 25 ∧ Blk wr (w.heap.size + 1) (u8s 64 fun _ => 0) 25 ∧
      Blk wr w1.heap.size (u8s 64 fun j => if j + 1 < k then derF p f j else 0) 25 ∧ Below w.heap.size w wr) (fun i _ => 64 - (intOf i).toNat)
    case atStart => exact ⟨1, by omega, by omega, rfl, hB1.alloc _, hZ1.alloc _, (Blk.new w1 _ _).cast (u8s_ext fun j _ => by simp), hb2.alloc hb2.size _⟩
    case round =>
      obtain ⟨k, hk0, hk, rfl, b0, b1, b2, hb⟩ := hrel
      have hws := hB1.lt
      have hws2 := hZ1.lt
      clear hB1 hZ1
      by_cases hlt : k < 64
      · obtain ⟨m, rfl⟩ : ∃ m, k = m + 1 := ⟨k - 1, by omega⟩
        have c0 : wr.cell? ⟨w.heap.size, m + 1, none⟩ = some (.int .u8 (f (m + 1))) := by rw [b0.cell, u8s_get _ hlt]
        have c1 : wr.cell? ⟨w1.heap.size, m, none⟩ = some (.int .u8 0) := by rw [b2.cell, u8s_get _ (by omega)]; simp
        have c2 := b2.free m
        have hz := hfH.out (m + 1)
        have hz1 := hz.1
        have hz2 := hz.2
        have hq := mod_small (n := ((m + 1 : Nat) : Int)) hp1 hp2
        have hm0 : 0 ≤ ((m + 1 : Nat) : Int) % p * f (m + 1) := Int.mul_nonneg hq.1 hz1
        have hm1 : ((m + 1 : Nat) : Int) % p * f (m + 1) ≤ 100000 := by
          have := Int.mul_le_mul_of_nonneg_right hq.2 hz1
          omega
        have hr := mod_small (n := ((m + 1 : Nat) : Int) % p * f (m + 1)) hp1 hp2
        have hr0 := hr.1
        have hr1 := hr.2
        have hq0 := hq.1
        have hq1 := hq.2
        have hi0 : (0 : Int) ≤ (m : Int) + 1 := by omega
        have hi1 : (m : Int) + 1 < 64 := by omega
        have hi2 : (0 : Int) ≤ (m : Int) := by omega
        have hi3 : (m : Int) < 64 := by omega
        clear hz hr hq
        simp only [Int.natCast_add, Int.natCast_one] at hm0 hm1 hr0 hr1 hq0 hq1
        go_wp2_with fail
        go_region
        go_wp2
        go_roundw
        case rel =>
          refine ⟨m + 1 + 1, by omega, by omega, by go_num, (b0.set_other _ _ (by simp; omega)).drew, (b1.set_other _ _ (by simp; omega)).drew, ?_, (hb.setCell (by simp; omega) _).drew⟩
          refine ((b2.set m _).cast ?_).drew
          rw [u8s_set]; apply u8s_ext; intro j hj
          by_cases e1 : j = m
          · subst e1
            have := der_same p ((j : Int) + 1) (f (j + 1))
            simp [derF, show j < 63 by omega, this]
          · by_cases e2 : j + 1 < m + 1
            · simp [e1, show j < m by omega, show j < m + 1 by omega]
            · simp [e1, show ¬ j < m by omega, show ¬ j < m + 1 by omega]
        case measure => simp [intOf] <;> omega
      · obtain rfl : k = 64 := by omega
        go_wp2_with (first | (refine wpl_load_arr rfl 25 _ rfl _ rfl _ _ b2 _ _ uPoly sPoly ?_) | (refine wpl_store_arr rfl 25 _ _ rfl _ rfl _ rfl _ _ b1 sPoly rfl (u8s_oneCell _ _) ?_))
        refine bodyPost_ret (res_ct rfl rfl (b1.setRow_same (cs := u8s 64 fun j => if j + 1 < 64 then derF p f j else 0)) uPoly sPoly rfl) rfl ⟨?_, below_setRow hb (by omega) _⟩
        rw [u8s_ext (g := derF p f) fun j hj => by
          by_cases e : j + 1 < 64
          · rw [if_pos e]
          · rw [if_neg e]; unfold derF; rw [if_neg (by omega)]]
        rfl
theorem DerivativeOf_pair (p : Int) (f : Nat → Int) (_ : (Lit.int .i64 p).wf = true) (hf : By f) : ∃ (r0 : Nat → Int) (r1 : Int),
    (∀ w, Calls Try.prog 23 #[.int .i64 p, .agg (u8s 64 f)] w fun e w' => e = .returned (.tuple #[.agg (u8s 64 r0), .int .i64 r1]) ∧ Below w.heap.size w w') ∧
    (∀ w, Calls Try.prog 24 #[.int .i64 p, .agg (u8s 64 f)] w fun e w' => e = .returned (.tuple #[.agg (u8s 64 r0), .int .i64 r1]) ∧ Below w.heap.size w w') := by
  obtain ⟨b, hb⟩ := dec_true (Good p [f])
  exact ⟨_, _, fun w => specDerivativeOf_any f p w hf b hb, fun w => implDerivativeOf_any f p w hf b hb⟩
end Go.Proofs.Ytkkgbdgialpcaaa

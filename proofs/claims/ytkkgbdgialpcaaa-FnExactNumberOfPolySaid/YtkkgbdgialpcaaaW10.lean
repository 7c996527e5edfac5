/- Walks: NumberOfPoly on both sides. -/
import Derived.Test.YtkkgbdgialpcaaaW9
namespace Go.Proofs.Ytkkgbdgialpcaaa
open Go.RowKit

/-- The number of a list of coefficients. -/
def nm (p : Int) : List Int → Int
  | [] => 0
  | a :: l => nm p l * p + a
theorem nm_drop (p : Int) (xs : List Int) (k : Nat) (h : k < xs.length) : nm p (xs.drop k) = nm p (xs.drop (k + 1)) * p + cf xs k := by
  rw [List.drop_eq_getElem_cons h, cf_lt xs k h]; rfl
theorem nm_nonneg (p : Int) (hp : 0 ≤ p) (xs : List Int) (h : ∀ i, 0 ≤ cf xs i) : 0 ≤ nm p xs := by
  induction xs with
  | nil => exact Int.le_refl _
  | cons a l ih =>
    have h1 := ih fun i => by have := h (i + 1); rwa [cf_cons_succ] at this
    have h2 := h 0
    rw [cf_cons_zero] at h2
    have := Int.mul_nonneg h1 hp
    show 0 ≤ nm p l * p + a
    omega
theorem nm_drop_le (p : Int) (hp : 1 ≤ p) (xs : List Int) (h : ∀ i, 0 ≤ cf xs i) : ∀ k, nm p (xs.drop k) ≤ nm p xs := by
  induction xs with
  | nil => intro k; simp
  | cons a l ih =>
    intro k
    have h' : ∀ i, 0 ≤ cf l i := fun i => by have := h (i + 1); rwa [cf_cons_succ] at this
    cases k with
    | zero => exact Int.le_refl _
    | succ k =>
      have h1 := ih h' k
      have h2 := nm_nonneg p (by omega) l h'
      have h3 := h 0
      rw [cf_cons_zero] at h3
      have h4 : nm p l * 1 ≤ nm p l * p := Int.mul_le_mul_of_nonneg_left hp h2
      show nm p (l.drop k) ≤ nm p l * p + a
      omega

/-- The number is in range. -/
def NumOk (N : Int) (c : Bool) : Prop := N ≤ 1000000000000 ↔ c = true
def NumIs (p : Int) (f : Nat → Int) (N : Int) : Prop := nm p (mkp 64 f) = N
/-- The number, or one more than the greatest one. -/
def nmCap (n : Int) : Int := if n > 1000000000000 then 1000000000001 else n

theorem mul_num {y p : Int} (hp : p ≤ 7) (hy0 : 0 ≤ y) (hy1 : y ≤ 1000000000000) (hp0 : 2 ≤ p) : 0 ≤ y * p ∧ y * p ≤ 7000000000000 := by
  refine ⟨Int.mul_nonneg hy0 (by omega), ?_⟩
  have h1 : y * p ≤ y * 7 := Int.mul_le_mul_of_nonneg_left hp hy0
  omega

set_option maxHeartbeats 400000 in
theorem l01Value_any (f : Nat → Int) (p : Int) (w : World) (hp : Pr p) (hf : By f) :
    Calls Try.prog 75 #[.int .i64 p, .agg (u8s 64 f)] w fun e w' => e = .returned (.int .i64 (nmCap (nm p (mkp 64 f)))) ∧ Below w.heap.size w w' := by
  have hp1 := hp.pos.1
  have hp2 := hp.pos.2
  clear hp
  have hfH := Lib.hid hf
  clear hf
  have hB := Blk.new w (u8s 64 f) 25
  have hb0 := below_new w (.cells (u8s 64 f) 25)
  have hlen := mkp_length 64 f
  have hx := mkp_By hfH.out 64
  have hxH := Lib.hid hx
  clear hx
  go_enter Try.func75, Try.ntmps75
  go_wp2_with (refine wpl_load_arr rfl 25 _ rfl _ rfl _ _ hB _ _ uPoly sPoly ?_)
  refine (l01Deg_any f _ hfH.out.on).mono ?_
  rintro e w1 ⟨rfl, hb1⟩
  have hb2 := below_step hb0 hb1
  have hB1 := hB.keep hb1
  clear hB hb0 hb1
  have hcl : ∀ i, i < (mkp 64 f).length → cf (mkp 64 f) i = f i := fun i hi => by rw [mkp_cf, if_pos (by omega)]
  have hclH := Lib.hid hcl
  clear hcl
  generalize hX : mkp 64 f = xs at *
  have hXH := Lib.hid hX
  clear hX
  generalize hL : xs.length = L at *
  have hLH := Lib.hid hL
  clear hL
  go_wp2_with fail
  go_loop [5, 6] (fun t i => ∃ (k : Nat) (y : Int), k ≤ L ∧ i = .int .i64 ((k : Int) - 1) ∧ t = .int .i64 y ∧ y = nm p (xs.drop k) ∧ y ≤ 1000000000000) (fun _ i => (intOf i + 1).toNat)
  case atStart => exact ⟨L, 0, Nat.le_refl _, rfl, rfl, by rw [List.drop_of_length_le (by rw [hLH.out]; exact Nat.le_refl _)]; rfl, by omega⟩
  case round =>
    obtain ⟨k, y, hk, hi, rfl, hy, hym⟩ := hrel
    have hy0 := nm_nonneg p (by omega) (xs.drop k) (fun i => by
      have : cf (xs.drop k) i = cf xs (k + i) := by unfold cf; rw [List.getD_eq_getElem?_getD, List.getD_eq_getElem?_getD, List.getElem?_drop]
      rw [this]; exact (hxH.out _).1)
    rw [← hy] at hy0
    have hyH := Lib.hid hy; clear hy
    by_cases h0 : k = 0
    · subst h0
      simp only [Int.natCast_zero, Int.zero_sub] at hi
      subst hi
      go_wp2_with fail
      go_ret
      have e1 : nmCap (nm p xs) = y := by
        have : y = nm p xs := hyH.out
        rw [← this]; unfold nmCap; rw [if_neg (by omega)]
      have hX := hXH.out
      subst hX
      exact ⟨ret_int e1.symm, hb2⟩
    · obtain ⟨m, rfl⟩ : ∃ m, k = m + 1 := ⟨k - 1, by omega⟩
      rw [show (((m + 1 : Nat) : Int) - 1) = (m : Int) by omega] at hi
      subst hi
      have c0 : w1.cell? ⟨w.heap.size, m, none⟩ = some (.int .u8 (cf xs m)) := by rw [hB1.cell, u8s_get _ (by omega), hclH.out m (by omega)]
      have hm := mul_num hp2 hy0 hym hp1
      have hm1 := hm.1
      have hm2 := hm.2
      have hz := hxH.out m
      have hz1 := hz.1
      have hz2 := hz.2
      clear hm hz
      have hn := Lib.hid (nm_drop p xs m (by rw [hLH.out]; omega))
      by_cases hgt : y * p + cf xs m > 1000000000000
      · have hgt2 := hgt
        go_wp2_with fail
        go_ret
        have h1 := nm_drop_le p (by omega) xs (fun i => (hxH.out i).1) m
        rw [hn.out, ← hyH.out] at h1
        have hX := hXH.out
        subst hX
        refine ⟨ret_int ?_, hb2⟩
        unfold nmCap; rw [if_pos (by omega)]
      · go_wp2_with fail
        go_round
        case rel => exact ⟨m, _, by omega, by go_num, rfl, by rw [hn.out, ← hyH.out], by omega⟩
        case measure => simp [intOf] <;> omega

set_option maxHeartbeats 400000 in
theorem specNumberOfPoly_any (f : Nat → Int) (p : Int) (N : Int) (w : World) (hf : By f) (hN : NumIs p f N) (b c : Bool) (hb : Good p [f] ↔ b = true) (hc : NumOk N c) :
    Calls Try.prog 37 #[.int .i64 p, .agg (u8s 64 f)] w fun e w' => e = .returned (.tuple #[.int .i64 (if b && c then N else 0), .int .i64 (if b then (if c then 0 else 3) else 1)]) ∧ Below w.heap.size w w' := by
  have hfH := Lib.hid hf; clear hf
  have hbH := Lib.hid hb; clear hb
  have hB := Blk.new w (u8s 64 f) 25
  have hb0 := below_new w (.cells (u8s 64 f) 25)
  go_enter Try.func37, Try.ntmps37
  go_wp2_with (first | (refine wpl_load_arr rfl 25 _ rfl _ rfl _ _ hB _ _ uPoly sPoly ?_) | (refine wpl_buildSlice_polys rfl 93 25 1 _ rfl Try.underlying93 sPoly zPoly [f] rfl (by decide) (by decide) rfl ?_))
  refine (l01Code_lit [f] 1 64 rfl rfl (by omega) p _ _ _ (Blk.newAt (size_alloc _ _).symm _ _) (by1 hfH.out) b hbH.out).mono ?_
  rintro e w1 ⟨rfl, hb1⟩
  have hb2 := below_step hb0 (below_step (below_new _ _) hb1)
  have hB1 := (hB.alloc _).keep hb1
  clear hB hb0 hb1
  cases b
  · clear hN
    go_wp2_with fail
    go_ret2
    exact ⟨rfl, hb2⟩
  · have hpH := Lib.hid ((hbH.out.2 rfl).1)
    have h1 := l01Value_any f p w1 hpH.out hfH.out
    rw [show nm p (mkp 64 f) = N from hN] at h1
    have H1 := Lib.hid h1
    clear h1 hN
    go_wp2_with (first | (refine wpl_load_arr rfl 25 _ rfl _ rfl _ _ hB1 _ _ uPoly sPoly ?_))
    refine H1.out.mono ?_
    rintro e w2 ⟨rfl, hb3⟩
    cases c
    · have e1 : nmCap N = 1000000000001 := by
        unfold nmCap; rw [if_pos]
        by_cases h : N ≤ 1000000000000
        · exact absurd (hc.1 h) (by simp)
        · omega
      rw [e1]
      clear e1
      go_wp2_with fail
      go_ret2
      exact ⟨rfl, below_step hb2 hb3⟩
    · have e1 : nmCap N = N := by
        have := hc.2 rfl
        unfold nmCap; rw [if_neg (by omega)]
      have e2 := hc.2 rfl
      clear hc
      rw [e1]
      clear e1
      go_wp2_with fail
      go_ret2
      exact ⟨rfl, below_step hb2 hb3⟩

set_option maxHeartbeats 1000000 in
theorem implNumberOfPoly_any (f : Nat → Int) (p : Int) (w : World) (hf : By f) (b c : Bool) (hb : Good p [f] ↔ b = true) (hc : (nm p (mkp 64 f) ≤ 1000000000000) ↔ c = true) :
    Calls Try.prog 38 #[.int .i64 p, .agg (u8s 64 f)] w fun e w' => e = .returned (.tuple #[.int .i64 (if b && c then nm p (mkp 64 f) else 0), .int .i64 (if b then (if c then 0 else 3) else 1)]) ∧ Below w.heap.size w w' := by
  have hfH := Lib.hid hf; clear hf
  have hbH := Lib.hid hb; clear hb
  have hcH := Lib.hid hc; clear hc
  have hB := Blk.new w (u8s 64 f) 25
  have hb0 := below_new w (.cells (u8s 64 f) 25)
  go_enter Try.func38, Try.ntmps38
  go_wp2_with (first | (refine wpl_load_arr rfl 25 _ rfl _ rfl _ _ hB _ _ uPoly sPoly ?_) | (refine wpl_buildSlice_polys rfl 93 25 1 _ rfl Try.underlying93 sPoly zPoly [f] rfl (by decide) (by decide) rfl ?_))
  refine (polysCode_lit [f] 1 64 rfl rfl (by omega) p _ _ _ (Blk.newAt (size_alloc _ _).symm _ _) (by1 hfH.out) b hbH.out).mono ?_
  rintro e w1 ⟨rfl, hb1⟩
  have hb2 := below_step hb0 (below_step (below_new _ _) hb1)
  have hB1 := (hB.alloc _).keep hb1
  clear hB hb0 hb1
  cases b
  · go_wp2_with fail
    go_ret2
    exact ⟨rfl, hb2⟩
  · have hp := (hbH.out.2 rfl).1
    have hp1 := hp.pos.1
    have hp2 := hp.pos.2
    clear hp
    go_wp2_with (first | (refine wpl_load_arr rfl 25 _ rfl _ rfl _ _ hB1 _ _ uPoly sPoly ?_))
    refine (rowOf_any f _ hfH.out.on).mono ?_
    rintro e w2 ⟨v, rfl, hrow, hb3⟩
    have hb4 := below_step hb2 hb3
    have hxH := Lib.hid (mkp_By hfH.out 64)
    clear hB1 hb2 hb3
    generalize hX : mkp 64 f = xs at *
    have hXH := Lib.hid hX
    clear hX
    obtain ⟨oa, cap, rfl, hle, hcap, hcell⟩ := hrow
    have hcellH := Lib.hid hcell
    unfold maxLen at hcap
    have hcap2 : xs.length ≤ 9223372036854775807 := by omega
    clear hcell hcap
    generalize hL : xs.length = L at *
    have hLH := Lib.hid hL
    clear hL
    go_wp2_with fail
    go_loop [8, 9] (fun t i => ∃ (k : Nat) (y : Int), k ≤ L ∧ i = .int .i64 ((k : Int) - 1) ∧ t = .int .i64 y ∧ y = nm p (xs.drop k) ∧ y ≤ 1000000000000) (fun _ i => (intOf i + 1).toNat)
    case atStart => exact ⟨L, 0, Nat.le_refl _, rfl, rfl, by rw [List.drop_of_length_le (by rw [hLH.out]; exact Nat.le_refl _)]; rfl, by omega⟩
    case round =>
      obtain ⟨k, y, hk, hi, rfl, hy, hym⟩ := hrel
      have hy0 := nm_nonneg p (by omega) (xs.drop k) (fun i => by
        have : cf (xs.drop k) i = cf xs (k + i) := by unfold cf; rw [List.getD_eq_getElem?_getD, List.getD_eq_getElem?_getD, List.getElem?_drop]
        rw [this]; exact (hxH.out _).1)
      rw [← hy] at hy0
      have hyH := Lib.hid hy; clear hy
      by_cases h0 : k = 0
      · subst h0
        simp only [Int.natCast_zero, Int.zero_sub] at hi
        subst hi
        have e1 : y = nm p xs := hyH.out
        have e2 : c = true := hcH.out.1 (by rw [← e1]; exact hym)
        subst e2
        have e1H := Lib.hid e1
        clear e1
        go_wp2_with fail
        go_ret2
        have hX := hXH.out
        subst hX
        exact ⟨by rw [← e1H.out]; rfl, hb4⟩
      · obtain ⟨m, rfl⟩ : ∃ m, k = m + 1 := ⟨k - 1, by omega⟩
        rw [show (((m + 1 : Nat) : Int) - 1) = (m : Int) by omega] at hi
        subst hi
        obtain ⟨bb, off, rfl, hcl⟩ := hcellH.out (by omega)
        have c0 := hcl m (by omega)
        clear hcl
        have hm := mul_num hp2 hy0 hym hp1
        have hm1 := hm.1
        have hm2 := hm.2
        have hz := hxH.out m
        have hz1 := hz.1
        have hz2 := hz.2
        clear hm hz
        have hn := Lib.hid (nm_drop p xs m (by rw [hLH.out]; omega))
        by_cases hgt : y * p + cf xs m > 1000000000000
        · have hgt2 := hgt
          have e2 : c = false := by
            have h1 := nm_drop_le p (by omega) xs (fun i => (hxH.out i).1) m
            rw [hn.out, ← hyH.out] at h1
            cases c
            · rfl
            · have := hcH.out.2 rfl; omega
          subst e2
          go_wp2_with fail
          go_ret2
          exact ⟨rfl, hb4⟩
        · go_wp2_with fail
          go_round
          case rel => exact ⟨m, _, by omega, by go_num, rfl, by rw [hn.out, ← hyH.out], by omega⟩
          case measure => simp [intOf] <;> omega

theorem NumberOfPoly_pair (p : Int) (f : Nat → Int) (_ : (Lit.int .i64 p).wf = true) (hf : By f) : ∃ r0 r1 : Int,
    (∀ w, Calls Try.prog 37 #[.int .i64 p, .agg (u8s 64 f)] w fun e w' => e = .returned (.tuple #[.int .i64 r0, .int .i64 r1]) ∧ Below w.heap.size w w') ∧
    (∀ w, Calls Try.prog 38 #[.int .i64 p, .agg (u8s 64 f)] w fun e w' => e = .returned (.tuple #[.int .i64 r0, .int .i64 r1]) ∧ Below w.heap.size w w') := by
  obtain ⟨b, hb⟩ := dec_true (Good p [f])
  obtain ⟨c, hc⟩ := dec_true (nm p (mkp 64 f) ≤ 1000000000000)
  exact ⟨_, _, fun w => specNumberOfPoly_any f p _ w hf rfl b c hb hc, fun w => implNumberOfPoly_any f p w hf b c hb hc⟩
end Go.Proofs.Ytkkgbdgialpcaaa

/- Walks: powers of polynomials on both sides. -/
import Derived.Test.YthkkicanockhgaaC8
import Derived.Test.YthkkicanockhgaaPn
set_option linter.unusedVariables false
set_option linter.unusedSimpArgs false
namespace Go.Proofs.Ythkkicanockhgaa
open Go.RowKit

/-- A power, as the program reckons it. -/
def pwOf (p : Int) (r : List Int) (n : Nat) : List Int := if r.length ≤ 1 then powp p r n [0, 1] else rpw p r n
theorem pwOf_short {p : Int} {r : List Int} (h : r.length ≤ 1) (n : Nat) : pwOf p r n = powp p r n [0, 1] := if_pos h
theorem pwOf_long {p : Int} {r : List Int} (h : ¬ r.length ≤ 1) (n : Nat) : pwOf p r n = rpw p r n := if_neg h
theorem pwOf_Po {p : Int} {r : List Int} (h : P64 p r) (n : Nat) : Po p (pwOf p r n) := by
  have hp2 := h.pr.pos
  unfold pwOf; split
  · exact (pwl_Po h.pr (letter_Po hp2.1) (by simp) n _ _ (rst_Po h.pr (one_Po hp2.1) (letter_Po hp2.1) (by simp)) (rst_lt h.pr (one_Po hp2.1) (letter_Po hp2.1) (by simp)) (rst_Po h.pr h.po (letter_Po hp2.1) (by simp)) (rst_lt h.pr h.po (letter_Po hp2.1) (by simp))).1
  · exact rpw_Po hp2.1 _ _
theorem IsRow_letter (w : World) (g : Nat) (h0 : w.cell? ⟨g, 0, none⟩ = some (.int .i64 0)) (h1 : w.cell? ⟨g, 1, none⟩ = some (.int .i64 1)) : IsRow w (.slice (some ⟨g, 0, none⟩) 2 2) [0, 1] :=
  ⟨some ⟨g, 0, none⟩, 2, by simp, by simp, by unfold maxLen; omega, fun _ => ⟨g, 0, rfl, fun i hi => by
    have : i = 0 ∨ i = 1 := by simp at hi; omega
    rcases this with rfl | rfl
    · exact h0
    · exact h1⟩⟩

set_option maxRecDepth 20000 in
set_option maxHeartbeats 2000000 in
theorem implPowerOf_any (p : Int) (f : Nat → Int) (k : Int) (w : World) (hf : By f) (b : Bool) (hb : Good p [f] ↔ b = true) (c : Bool) (hc : decide (0 ≤ k ∧ k ≤ 1000000000000) = c) :
    Calls Try.prog 37 #[.int .i64 p, .agg (u8s 64 f), .int .i64 k] w fun e w' => e = .returned (.tuple #[.agg (u8s 64 (if b then (if c then toldF (pwOf p (mkp 64 f) k.toNat) else fun _ => 0) else fun _ => 0)), .int .i64 (if b then (if c then toldC (pwOf p (mkp 64 f) k.toNat) else 2) else 1)]) ∧ Below w.heap.size w w' := by
  obtain ⟨M, hM⟩ : ∃ M, pwOf p (mkp 64 f) k.toNat = M := ⟨_, rfl⟩
  rw [hM]
  have hMM := Lib.hid hM
  have hcH := Lib.hid hc
  clear hM hc
  have hfH := Lib.hid hf; clear hf
  have hbH := Lib.hid hb; clear hb
  obtain ⟨hb0, hA, hZ⟩ := boxes2 w (u8s 64 f) (u8s 64 fun _ => 0) 23 23
  go_enter Try.func37, Try.ntmps37
  go_wp2_with (first | (refine wpl_alloc_arr rfl 23 rfl _ zPoly ?_) | (refine wpl_load_arr rfl 23 _ rfl _ rfl _ _ hA _ _ uPoly sPoly ?_) | (refine wpl_buildSlice_polys rfl 83 23 1 _ rfl Try.underlying83 sPoly zPoly [f] rfl (by decide) (by decide) rfl ?_))
  refine (polysCode_lit [f] 1 64 rfl rfl (by omega) p _ _ _ (Blk.newAt (by simp) _ _) (by1 hfH.out) b hbH.out).mono ?_
  rintro e w1 ⟨rfl, hb1⟩
  have hb2 := below_step hb0 (below_step (below_new _ _) hb1)
  have hA1 := (hA.alloc _).keep hb1
  have hZ1 := (hZ.alloc _).keep hb1
  clear hA hZ hb0 hb1
  cases b
  · go_wp2_with (first | (refine wpl_build_zero rfl 23 64 5 rfl _ uPoly sByte zPoly ?_) | (refine wpl_store_arr rfl 23 _ _ rfl _ rfl _ rfl _ _ hZ1 sPoly rfl (u8s_oneCell _ _) ?_))
    exact bodyPost_ret (res_ct rfl rfl (hZ1.setRow_same (cs := u8s 64 fun _ => 0)) uPoly sPoly rfl) rfl ⟨rfl, below_setRow hb2 (by omega) _⟩
  · have hG := hbH.out.2 rfl
    have hxH := Lib.hid (hG.p64 (f := f) (by simp) hfH.out)
    clear hG
    go_wp2_with ((with_reducible refine wpl_guard ?_); first | (refine wpl_load_arr rfl 23 _ rfl _ rfl _ _ hA1 _ _ uPoly sPoly ?_))
    refine (rowOf_any f _ hfH.out.on).mono ?_
    rintro e w2 ⟨vr, rfl, hrow, hn⟩
    have hrH := Lib.hid hrow
    replace hA1 := hA1.keep hn
    replace hZ1 := hZ1.keep hn
    replace hb2 := below_step hb2 hn
    clear hn
    clear hrow hA1
    cases c
    · go_wp2_with (first | (go_at_call 69; refine (isNumber_any _ _ _ hcH.out).mono ?_; rintro e w' ⟨rfl, rfl⟩) | ((with_reducible refine wpl_guard ?_); first | (refine wpl_build_zero rfl 23 64 5 rfl _ uPoly sByte zPoly ?_) | (refine wpl_store_arr rfl 23 _ _ rfl _ rfl _ rfl _ _ hZ1 sPoly (by simp only [u8s_size]) (u8s_oneCell _ _) ?_)))
      exact bodyPost_ret (res_ct (x := .int .i64 2) rfl rfl (hZ1.setRow_same (cs := u8s 64 fun _ => 0)) uPoly sPoly rfl) rfl ⟨rfl, below_setRow hb2 (by omega) _⟩
    · have hck := of_decide_eq_true hcH.out
      have hcT := Lib.hid hcH.out
      obtain ⟨n, rfl⟩ := Int.eq_ofNat_of_zero_le hck.1
      have hn12 := Lib.hid (show n ≤ 1000000000000 by have := hck.2; omega)
      rw [Int.toNat_natCast] at hMM
      obtain ⟨L, hL⟩ : ∃ L, (mkp 64 f).length = L := ⟨_, rfl⟩
      have hLH := Lib.hid hL
      have hd := fun w v h => degree_any v (mkp 64 f) w h
      rw [hL] at hd
      have hdH := Lib.hid hd
      have hL64 : L ≤ 64 := hL ▸ mkp_length 64 f
      clear hck hcH hL hd
      by_cases hs : L ≤ 1
      · have hsi : ¬ 0 < (L : Int) - 1 := by omega
        have hsj : (L : Int) - 1 ≤ 0 := by omega
        have hMs := hMM.out
        rw [pwOf_short (by rw [hLH.out]; exact hs)] at hMs
        have hMP := pwOf_Po hxH.out n
        rw [hMM.out] at hMP
        have hMsH := Lib.hid hMs
        have hMPH := Lib.hid hMP
        clear hMs hMP hs
        go_wp2_with (first | (go_at_call 69; refine (isNumber_any _ _ _ hcT.out).mono ?_; rintro e w' ⟨rfl, rfl⟩) | (go_at_call 70; refine (hdH.out _ _ hrH.out).mono ?_; rintro e w' ⟨rfl, rfl⟩))
        have hb3 := below_new w2 (Obj.cells #[Value.int IntKind.i64 0, Value.int IntKind.i64 1] 2)
        have hlt := IsRow_letter (w2.alloc (Obj.cells #[Value.int IntKind.i64 0, Value.int IntKind.i64 1] 2)) w2.heap.size ((Blk.new w2 #[Value.int IntKind.i64 0, Value.int IntKind.i64 1] 2).cell 0) ((Blk.new w2 #[Value.int IntKind.i64 0, Value.int IntKind.i64 1] 2).cell 1)
        have hp2 := hxH.out.pr.pos
        refine (power_any vr _ _ [0, 1] n p _ hxH.out.pr (hrH.out.below hb3) hlt hxH.out.po (letter_Po hp2.1) (by simp) (by have := hxH.out.le; omega) (by simp) hn12.out).mono ?_
        rintro e w3 ⟨v, rfl, hv, hn⟩
        rw [hMsH.out] at hv
        have hvH := Lib.hid hv
        replace hZ1 := (hZ1.alloc _).keep hn
        replace hb2 := below_step (below_step hb2 hb3) hn
        clear hb3 hlt hp2 hv hn
        go_wp2_with fail
        refine (told_any v M _ hvH.out (fun i => By_of_Po hxH.out.pr hMPH.out i)).mono ?_
        rintro e w4 ⟨rfl, hn⟩
        replace hZ1 := hZ1.keep hn
        replace hb2 := below_step hb2 hn
        clear hn
        go_wp2_with ((with_reducible refine wpl_guard ?_); first | (refine wpl_store_arr rfl 23 _ _ rfl _ rfl _ rfl _ _ hZ1 sPoly (by simp only [u8s_size]) (u8s_oneCell _ _) ?_))
        exact bodyPost_ret (res_ct (x := .int .i64 (toldC M)) rfl rfl (hZ1.setRow_same (cs := u8s 64 (toldF M))) uPoly sPoly rfl) rfl ⟨rfl, below_setRow hb2 (by omega) _⟩
      · have hsi : 0 < (L : Int) - 1 := by omega
        have hsj : ¬ (L : Int) - 1 ≤ 0 := by omega
        have hMs := hMM.out
        rw [pwOf_long (by rw [hLH.out]; exact hs)] at hMs
        have hMP := pwOf_Po hxH.out n
        rw [hMM.out] at hMP
        have hp2 := hxH.out.pr.pos
        have hlen := rpw_length hxH.out.pr hxH.out.po (by rw [hLH.out]; omega)
        have hrP := rpw_Po hp2.1 (mkp 64 f)
        rw [hLH.out] at hlen
        have hMsH := Lib.hid hMs
        have hMPH := Lib.hid hMP
        have hlenH := Lib.hid hlen
        have hrPH := Lib.hid hrP
        have hL2 : 2 ≤ L := by omega
        clear hMs hMP hs hp2 hlen hrP
        by_cases hk : n ≤ 63
        · have hki : ¬ 63 < (n : Int) := by omega
          go_wp2_with (first | (go_at_call 69; refine (isNumber_any _ _ _ hcT.out).mono ?_; rintro e w' ⟨rfl, rfl⟩) | (go_at_call 70; refine (hdH.out _ _ hrH.out).mono ?_; rintro e w' ⟨rfl, rfl⟩))
          have hb3 := below_new w2 (Obj.cells #[Value.int IntKind.i64 1] 2)
          have h1 := Lib.hid (IsRow_one _ _ _ ((Blk.new w2 #[Value.int IntKind.i64 1] 2).cell 0))
          have hr3 := Lib.hid (hrH.out.below hb3)
          replace hZ1 := hZ1.alloc (Obj.cells #[Value.int IntKind.i64 1] 2)
          replace hb2 := below_step hb2 hb3
          clear hb3 hrH
          go_loopw [10, 49] (fun vo i wr => ∃ j : Nat, j ≤ n ∧ i = .int .i64 j ∧ Hid (IsRow wr vo (rpw p (mkp 64 f) j)) ∧ Hid ((rpw p (mkp 64 f) j).length ≤ 64) ∧ Hid (IsRow wr vr (mkp 64 f)) ∧ Blk wr (w.heap.size + 1) (u8s 64 fun _ => 0) 23 ∧ Below w.heap.size w wr) (fun _ i _ => n - (intOf i).toNat)
          case atStart => exact ⟨0, by omega, rfl, h1, by show ([1] : List Int).length ≤ 64; simp, hr3, hZ1, hb2⟩
          case round =>
            clear h1 hr3 hZ1 hb2
            obtain ⟨j, hj, rfl, ho, hol, hr3, hZ1, hb2⟩ := hrel
            by_cases hlt : j < n
            · go_wp2_with fail
              refine (times_any _ _ _ _ p _ hxH.out.pr ho.out hr3.out (hrPH.out j).md hxH.out.po.md (by have := hol.out; omega) (by have := hxH.out.le; omega)).mono ?_
              rintro e w3 ⟨v, rfl, hv, hn⟩
              have hvH := Lib.hid (show IsRow w3 v (rpw p (mkp 64 f) (j + 1)) from hv)
              replace hr3 := Lib.hid (hr3.out.below hn)
              replace hZ1 := hZ1.keep hn
              replace hb2 := below_step hb2 hn
              clear hv hn ho
              go_wp2_with fail
              by_cases hf : (rpw p (mkp 64 f) (j + 1)).length ≤ 64
              · refine (fits_any v _ _ hvH.out true (by simpa using hf)).mono ?_
                rintro e w4 ⟨rfl, rfl⟩
                have hfH := Lib.hid hf
                clear hf
                go_wp2_with fail
                go_roundw
                case rel => exact ⟨j + 1, by omega, by go_num, hvH, hfH, hr3, hZ1, hb2⟩
                case measure => simp [intOf] <;> omega
              · refine (fits_any v _ _ hvH.out false (by simpa using hf)).mono ?_
                rintro e w4 ⟨rfl, rfl⟩
                have hend := Lib.hid (show toldF M = (fun _ => 0) ∧ toldC M = 3 by
                  have h5 : ¬ M.length ≤ 64 := by
                    rw [← hMsH.out, hlenH.out]
                    rw [hlenH.out] at hf
                    have h6 : (L - 1) * (j + 1) ≤ (L - 1) * n := Nat.mul_le_mul_left _ hlt
                    omega
                  exact ⟨if_neg h5, if_neg h5⟩)
                clear hf
                go_wp2_with ((with_reducible refine wpl_guard ?_); first | (refine wpl_build_zero rfl 23 64 5 rfl _ uPoly sByte zPoly ?_) | (refine wpl_store_arr rfl 23 _ _ rfl _ rfl _ rfl _ _ hZ1 sPoly (by simp only [u8s_size]) (u8s_oneCell _ _) ?_))
                exact bodyPost_ret (res_ct (x := .int .i64 3) rfl rfl (hZ1.setRow_same (cs := u8s 64 fun _ => 0)) uPoly sPoly rfl) rfl ⟨by rw [hend.out.1, hend.out.2], below_setRow hb2 (by omega) _⟩
            · obtain rfl : j = n := by omega
              have hvM := ho.out
              rw [hMsH.out] at hvM
              have hvH := Lib.hid hvM
              clear hvM ho hol
              go_wp2_with fail
              refine (told_any _ M _ hvH.out (fun i => By_of_Po hxH.out.pr hMPH.out i)).mono ?_
              rintro e w4 ⟨rfl, hn⟩
              replace hZ1 := hZ1.keep hn
              replace hb2 := below_step hb2 hn
              clear hn
              go_wp2_with ((with_reducible refine wpl_guard ?_); first | (refine wpl_store_arr rfl 23 _ _ rfl _ rfl _ rfl _ _ hZ1 sPoly (by simp only [u8s_size]) (u8s_oneCell _ _) ?_))
              exact bodyPost_ret (res_ct (x := .int .i64 (toldC M)) rfl rfl (hZ1.setRow_same (cs := u8s 64 (toldF M))) uPoly sPoly rfl) rfl ⟨rfl, below_setRow hb2 (by omega) _⟩
        · have hki : 63 < (n : Int) := by omega
          have hend := Lib.hid (show toldF M = (fun _ => 0) ∧ toldC M = 3 by
            have h5 : ¬ M.length ≤ 64 := by
              rw [← hMsH.out, hlenH.out]
              have h6 : 1 * n ≤ (L - 1) * n := Nat.mul_le_mul_right _ (by omega)
              omega
            exact ⟨if_neg h5, if_neg h5⟩)
          go_wp2_with (first | (go_at_call 69; refine (isNumber_any _ _ _ hcT.out).mono ?_; rintro e w' ⟨rfl, rfl⟩) | (go_at_call 70; refine (hdH.out _ _ hrH.out).mono ?_; rintro e w' ⟨rfl, rfl⟩) | ((with_reducible refine wpl_guard ?_); first | (refine wpl_build_zero rfl 23 64 5 rfl _ uPoly sByte zPoly ?_) | (refine wpl_store_arr rfl 23 _ _ rfl _ rfl _ rfl _ _ hZ1 sPoly (by simp only [u8s_size]) (u8s_oneCell _ _) ?_)))
          exact bodyPost_ret (res_ct (x := .int .i64 3) rfl rfl (hZ1.setRow_same (cs := u8s 64 fun _ => 0)) uPoly sPoly rfl) rfl ⟨by rw [hend.out.1, hend.out.2], below_setRow hb2 (by omega) _⟩

theorem pwOf_zero {p : Int} {r : List Int} (h : P64 p r) : pwOf p r 0 = [1] := by
  have hp2 := h.pr.pos
  unfold pwOf; split
  · unfold powp; rw [pwl_zero, rst_short h.pr (one_Po hp2.1) (letter_Po hp2.1) (by simp)]
  · rfl
theorem pwOf_one {p : Int} {r : List Int} (h : P64 p r) (hl : r.length ≤ 1) (n : Nat) : (pwOf p r n).length ≤ 1 ∧ ∀ i, cf (pwOf p r n) i = if i = 0 then powm p (cf r 0) n else 0 := by
  have hc := powp_const h.pr h.po hl n
  rw [pwOf_short hl]
  refine ⟨?_, hc⟩
  have hP := pwOf_Po h n
  rw [pwOf_short hl] at hP
  exact Tr_length_le hP.tr fun i hi => by rw [hc i, if_neg (by omega)]
set_option maxRecDepth 20000 in
set_option maxHeartbeats 2000000 in
theorem specPowerOf_any (p : Int) (f : Nat → Int) (k : Int) (w : World) (hf : By f) (b : Bool) (hb : Good p [f] ↔ b = true) (c : Bool) (hc : decide (0 ≤ k ∧ k ≤ 1000000000000) = c) :
    Calls Try.prog 36 #[.int .i64 p, .agg (u8s 64 f), .int .i64 k] w fun e w' => e = .returned (.tuple #[.agg (u8s 64 (if b then (if c then toldF (pwOf p (mkp 64 f) k.toNat) else fun _ => 0) else fun _ => 0)), .int .i64 (if b then (if c then toldC (pwOf p (mkp 64 f) k.toNat) else 2) else 1)]) ∧ Below w.heap.size w w' := by
  obtain ⟨M, hM⟩ : ∃ M, pwOf p (mkp 64 f) k.toNat = M := ⟨_, rfl⟩
  rw [hM]
  have hMM := Lib.hid hM
  have hcH := Lib.hid hc
  clear hM hc
  have hfH := Lib.hid hf; clear hf
  have hbH := Lib.hid hb; clear hb
  obtain ⟨hb0, hA, hZ⟩ := boxes2 w (u8s 64 f) (u8s 64 fun _ => 0) 23 23
  go_enter Try.func36, Try.ntmps36
  go_wp2_with (first | (refine wpl_alloc_arr rfl 23 rfl _ zPoly ?_) | (refine wpl_load_arr rfl 23 _ rfl _ rfl _ _ hA _ _ uPoly sPoly ?_) | (refine wpl_buildSlice_polys rfl 83 23 1 _ rfl Try.underlying83 sPoly zPoly [f] rfl (by decide) (by decide) rfl ?_))
  refine (l01Code_lit [f] 1 64 rfl rfl (by omega) p _ _ _ (Blk.newAt (by simp) _ _) (by1 hfH.out) b hbH.out).mono ?_
  rintro e w1 ⟨rfl, hb1⟩
  have hb2 := below_step hb0 (below_step (below_new _ _) hb1)
  have hA1 := (hA.alloc _).keep hb1
  have hZ1 := (hZ.alloc _).keep hb1
  clear hA hZ hb0 hb1
  cases b
  · go_wp2_with (first | (refine wpl_build_zero rfl 23 64 5 rfl _ uPoly sByte zPoly ?_) | (refine wpl_store_arr rfl 23 _ _ rfl _ rfl _ rfl _ _ hZ1 sPoly rfl (u8s_oneCell _ _) ?_))
    exact bodyPost_ret (res_ct rfl rfl (hZ1.setRow_same (cs := u8s 64 fun _ => 0)) uPoly sPoly rfl) rfl ⟨rfl, below_setRow hb2 (by omega) _⟩
  · have hG := hbH.out.2 rfl
    have hxP := hG.p64 (f := f) (by simp) hfH.out
    have hdg := fun w => l01Deg_any f w fun i _ => hfH.out i
    have hfx := u8s_mkp f
    obtain ⟨xs, hxs⟩ : ∃ xs, mkp 64 f = xs := ⟨_, rfl⟩
    have hM2 := hMM.out
    rw [hxs] at hxP hdg hfx hM2
    obtain ⟨L, hL⟩ : ∃ L, xs.length = L := ⟨_, rfl⟩
    rw [hL] at hdg
    rw [hfx] at hA1
    have hfxH := Lib.hid hfx
    have HX := Lib.hid hxP
    have HL := Lib.hid hL
    have HM := Lib.hid hM2
    have hdH := Lib.hid hdg
    have hp1 := hxP.pr.pos.1
    have hp2 := hxP.pr.pos.2
    have hpz : (p == 0) = false := by rw [beq_eq_false_iff_ne]; omega
    have hL64 : L ≤ 64 := hL ▸ hxP.le
    rw [← hfx] at hA1
    clear hG hxP hdg hfx hxs hM2 hL hMM hbH
    go_wp2_with ((with_reducible refine wpl_guard ?_); first | (refine wpl_load_arr rfl 23 _ rfl _ rfl _ _ hA1 _ _ uPoly sPoly ?_))
    refine (hdH.out _).mono ?_
    rintro e w2 ⟨rfl, hn⟩
    replace hA1 := hA1.keep hn
    replace hZ1 := hZ1.keep hn
    replace hb2 := below_step hb2 hn
    clear hn
    rw [hfxH.out] at hA1
    cases c
    · go_wp2_with (first | (go_at_call 67; refine (l01In_any _ _ _ _ _ hcH.out).mono ?_; rintro e w' ⟨rfl, rfl⟩) | ((with_reducible refine wpl_guard ?_); first | (refine wpl_build_zero rfl 23 64 5 rfl _ uPoly sByte zPoly ?_) | (refine wpl_store_arr rfl 23 _ _ rfl _ rfl _ rfl _ _ hZ1 sPoly (by simp only [u8s_size]) (u8s_oneCell _ _) ?_)))
      exact bodyPost_ret (res_ct (x := .int .i64 2) rfl rfl (hZ1.setRow_same (cs := u8s 64 fun _ => 0)) uPoly sPoly rfl) rfl ⟨rfl, below_setRow hb2 (by omega) _⟩
    have hck := of_decide_eq_true hcH.out
    have hcT := Lib.hid hcH.out
    obtain ⟨n, rfl⟩ := Int.eq_ofNat_of_zero_le hck.1
    have hn12 : n ≤ 1000000000000 := by have := hck.2; omega
    rw [Int.toNat_natCast] at HM
    clear hck hcH
    by_cases hn0 : n = 0
    · have hnb : ((n : Int) == 0) = true := by rw [hn0]; rfl
      have hend := Lib.hid (show Ending.returned (.tuple #[.agg (u8s 64 (cf [1])), .int .i64 0]) = .returned (.tuple #[.agg (u8s 64 (toldF M)), .int .i64 (toldC M)]) by
        rw [← HM.out, hn0, pwOf_zero HX.out]; rfl)
      clear hn0
      go_wp2_with (first | (go_at_call 67; refine (l01In_any _ _ _ _ _ hcT.out).mono ?_; rintro e w' ⟨rfl, rfl⟩))
      refine (l01One_any _).mono ?_
      rintro e w3 ⟨rfl, hn⟩
      replace hZ1 := hZ1.keep hn
      replace hb2 := below_step hb2 hn
      clear hn
      go_wp2_with ((with_reducible refine wpl_guard ?_); first | (refine wpl_store_arr rfl 23 _ _ rfl _ rfl _ rfl _ _ hZ1 sPoly (by simp only [u8s_size]) (u8s_oneCell _ _) ?_))
      exact bodyPost_ret (res_ct (x := .int .i64 0) rfl rfl (hZ1.setRow_same (cs := u8s 64 (cf [1]))) uPoly sPoly rfl) rfl ⟨hend.out, below_setRow hb2 (by omega) _⟩
    have hnb : ((n : Int) == 0) = false := by rw [beq_eq_false_iff_ne]; omega
    by_cases hL0 : L = 0
    · have hLi : (L : Int) - 1 < 0 := by omega
      have hend := Lib.hid (show Ending.returned (.tuple #[.agg (u8s 64 fun _ => 0), .int .i64 0]) = .returned (.tuple #[.agg (u8s 64 (toldF M)), .int .i64 (toldC M)]) by
        obtain ⟨h5, h6⟩ := pwOf_one HX.out (by rw [HL.out]; omega) n
        rw [HM.out] at h5 h6
        have hx0 : xs = [] := List.length_eq_zero_iff.1 (HL.out.trans hL0)
        have h7 : toldF M = fun _ => 0 := by
          rw [show toldF M = cf M from if_pos (by omega)]
          funext i; rw [h6 i, hx0, cf_nil, powm_zero hn0]; split <;> rfl
        rw [h7, show toldC M = 0 from if_pos (by omega)])
      clear hn0 hL0
      go_wp2_with (first | (go_at_call 67; refine (l01In_any _ _ _ _ _ hcT.out).mono ?_; rintro e w' ⟨rfl, rfl⟩) | ((with_reducible refine wpl_guard ?_); first | (refine wpl_build_zero rfl 23 64 5 rfl _ uPoly sByte zPoly ?_) | (refine wpl_store_arr rfl 23 _ _ rfl _ rfl _ rfl _ _ hZ1 sPoly (by simp only [u8s_size]) (u8s_oneCell _ _) ?_)))
      exact bodyPost_ret (res_ct (x := .int .i64 0) rfl rfl (hZ1.setRow_same (cs := u8s 64 fun _ => 0)) uPoly sPoly rfl) rfl ⟨hend.out, below_setRow hb2 (by omega) _⟩
    have hLi : ¬ (L : Int) - 1 < 0 := by omega
    by_cases hL1 : L = 1
    · have hLb : ((L : Int) - 1 == 0) = true := by rw [beq_iff_eq]; omega
      obtain ⟨P1, hP1⟩ := Int.eq_ofNat_of_zero_le (show 0 ≤ p - 1 by omega)
      have hPz : ((p - 1 : Int) == 0) = false := by rw [beq_eq_false_iff_ne]; omega
      obtain ⟨E, hE⟩ : ∃ E, n % P1 = E := ⟨_, rfl⟩
      have hEi : (n : Int) % (p - 1) = (E : Int) := by rw [hP1, ← hE]; exact (Int.natCast_emod n P1).symm
      have hE6 : E ≤ 6 := by have := Nat.mod_lt n (show 0 < P1 by omega); omega
      have hc1 : 0 < cf xs 0 := by
        have := HX.out.po.lead_len (by rw [HL.out]; omega)
        rwa [HL.out, hL1] at this
      have hc2 := (HX.out.po.md 0).2
      have hend := Lib.hid (show Ending.returned (.tuple #[.agg (u8s 64 fun j => if j = 0 then powm p (cf xs 0) E else 0), .int .i64 0]) = .returned (.tuple #[.agg (u8s 64 (toldF M)), .int .i64 (toldC M)]) by
        obtain ⟨h5, h6⟩ := pwOf_one HX.out (by rw [HL.out]; omega) n
        rw [HM.out] at h5 h6
        have h8 : powm p (cf xs 0) n = powm p (cf xs 0) E := by
          rw [powm_mod HX.out.pr hc1 hc2, show (p - 1).toNat = P1 by omega, hE]
        have h7 : toldF M = fun j => if j = 0 then powm p (cf xs 0) E else 0 := by
          rw [show toldF M = cf M from if_pos (by omega)]
          funext i; rw [h6 i, h8]
        rw [h7, show toldC M = 0 from if_pos (by omega)])
      have hEiH := Lib.hid hEi
      have hpow := Lib.hid (fun q => powm_lt hp1 (cf xs 0) q)
      clear hn0 hL0 hL1 hE hEi hP1
      have hP2 : 0 < p - 1 := by omega
      go_wp2_with (first | (go_at_call 67; refine (l01In_any _ _ _ _ _ hcT.out).mono ?_; rintro e w' ⟨rfl, rfl⟩))
      go_loopw [10, 11] (fun t i wr => ∃ q : Nat, q ≤ E ∧ t = .int .i64 (powm p (cf xs 0) q) ∧ i = .int .i64 ((E - q : Nat) : Int) ∧ Blk wr w.heap.size (u8s 64 (cf xs)) 23 ∧ Blk wr (w.heap.size + 1) (u8s 64 fun _ => 0) 23 ∧ Below w.heap.size w wr) (fun _ i _ => (intOf i).toNat)
      case atStart => exact ⟨0, by omega, rfl, by rw [hEiH.out]; rfl, hA1, hZ1, hb2⟩
      case round =>
        clear hA1 hZ1 hb2
        obtain ⟨q, hq, rfl, rfl, hA1, hZ1, hb2⟩ := hrel
        have hpr := hpow.out q
        have hv0 := hpr.1
        have hv1 := hpr.2
        by_cases hlt : q < E
        · have c0 : wr.cell? ⟨w.heap.size, 0, none⟩ = some (.int .u8 (cf xs 0)) := by rw [hA1.cell, u8s_get _ (by decide)]
          have ht := mul_small hp2 hv0 hv1 (show 0 ≤ cf xs 0 by omega) hc2
          have ht0 := ht.1
          have ht1 := ht.2
          have hpos : 0 < ((E - q : Nat) : Int) := by omega
          have hD6 : ((E - q : Nat) : Int) ≤ 6 := by omega
          obtain ⟨v, hv⟩ : ∃ v, powm p (cf xs 0) q = v := ⟨_, rfl⟩
          have hnx := Lib.hid (show v * cf xs 0 % p = powm p (cf xs 0) (q + 1) by rw [← hv]; rfl)
          rw [hv] at hv0 hv1 ht0 ht1 ⊢
          have hqH := Lib.hid (show q + 1 ≤ E ∧ ((E - q : Nat) : Int) - 1 = ((E - (q + 1) : Nat) : Int) by omega)
          obtain ⟨D, hD⟩ : ∃ D : Nat, E - q = D := ⟨_, rfl⟩
          rw [hD] at hpos hqH hD6 ⊢
          clear ht hv hpr hq hlt hD
          go_wp2_with fail
          go_roundw
          case rel => exact ⟨q + 1, hqH.out.1, by rw [← hnx.out], by first | (rw [← hqH.out.2]) | (congr 1; exact hqH.out.2), hA1, hZ1, hb2⟩
          case measure => simp [intOf] <;> omega
        · obtain rfl : q = E := by omega
          have hz : ¬ 0 < ((q - q : Nat) : Int) := by omega
          rw [Nat.sub_self]
          go_wp2_with ((with_reducible refine wpl_guard ?_); first | (refine wpl_build_one rfl 23 64 5 _ rfl (powm p (cf xs 0) q) rfl (by decide) uPoly sByte zPoly ?_) | (refine wpl_store_arr rfl 23 _ _ rfl _ rfl _ rfl _ _ hZ1 sPoly (by simp only [u8s_size]) (u8s_oneCell _ _) ?_))
          exact bodyPost_ret (res_ct (x := .int .i64 0) rfl rfl (hZ1.setRow_same (cs := u8s 64 fun j => if j = 0 then powm p (cf xs 0) q else 0)) uPoly sPoly rfl) rfl ⟨hend.out, below_setRow hb2 (by omega) _⟩
    have hLb : ((L : Int) - 1 == 0) = false := by rw [beq_eq_false_iff_ne]; omega
    obtain ⟨N, rfl⟩ : ∃ N, L = N + 1 := ⟨L - 1, by omega⟩
    have hNi : ((N + 1 : Nat) : Int) - 1 = (N : Int) := by omega
    have hlen := rpw_length HX.out.pr HX.out.po (by rw [HL.out]; omega)
    rw [HL.out, Nat.add_sub_cancel] at hlen
    have hMs : rpw p xs n = M := by rw [← HM.out, pwOf_long (by rw [HL.out]; omega)]
    have hlM := hlen n
    rw [hMs] at hlM
    have hN1 : 1 ≤ N := by omega
    have hlim : ¬ M.length ≤ 64 → Ending.returned (.tuple #[.agg (u8s 64 fun _ => 0), .int .i64 3]) = .returned (.tuple #[.agg (u8s 64 (toldF M)), .int .i64 (toldC M)]) := fun h => by
      rw [show toldF M = fun _ => 0 from if_neg h, show toldC M = 3 from if_neg h]
    by_cases hk : n ≤ 63
    · have hki : ¬ 63 < (n : Int) := by omega
      have hprod0 : 0 ≤ (N : Int) * (n : Int) := Int.mul_nonneg (by omega) (by omega)
      have hprod1 : (N : Int) * (n : Int) ≤ 4096 := by
        have h5 : N * n ≤ 64 * 64 := Nat.mul_le_mul (by omega) (by omega)
        have h6 : ((N * n : Nat) : Int) ≤ 4096 := by omega
        rwa [Int.natCast_mul] at h6
      by_cases hNn : N * n ≤ 63
      · have h3i : ¬ 63 < (N : Int) * (n : Int) := by
          have h6 : ((N * n : Nat) : Int) ≤ 63 := by omega
          rw [Int.natCast_mul] at h6; omega
        have hend := Lib.hid (show Ending.returned (.tuple #[.agg (u8s 64 (cf M)), .int .i64 0]) = .returned (.tuple #[.agg (u8s 64 (toldF M)), .int .i64 (toldC M)]) by
          rw [show toldF M = cf M from if_pos (by omega), show toldC M = 0 from if_pos (by omega)])
        have hMsH := Lib.hid hMs
        have hlenH := Lib.hid hlen
        have hNnH := Lib.hid hNn
        have hrPH := Lib.hid (rpw_Po hp1 xs)
        clear hlen hMs hlM hlim hNn hL0 hL1 hn0
        go_wp2_with (first | (go_at_call 67; refine (l01In_any _ _ _ _ _ hcT.out).mono ?_; rintro e w' ⟨rfl, rfl⟩))
        refine (l01One_any _).mono ?_
        rintro e w3 ⟨rfl, hn⟩
        replace hA1 := hA1.keep hn
        replace hZ1 := hZ1.keep hn
        replace hb2 := below_step hb2 hn
        clear hn
        have hg3 := hZ1.lt
        go_wp2_with ((with_reducible refine wpl_guard ?_); first | (refine wpl_new1 23 zPoly sPoly _ _ rfl rfl rfl rfl rfl rfl (cf [1]) rfl ?_; intro w4 hn hN; replace hA1 := hA1.keep hn; replace hZ1 := hZ1.keep hn; replace hb2 := below_step hb2 hn; clear hn))
        simp only [Act.put, List.setIfInBounds_toArray, List.set_cons_zero, List.set_cons_succ]
        generalize w3.heap.size = gN at *
        go_loopw [2] (fun kk wr => ∃ j : Nat, j ≤ n ∧ kk = .int .i64 ((n - j : Nat) : Int) ∧ Blk wr w.heap.size (u8s 64 (cf xs)) 23 ∧ Blk wr (w.heap.size + 1) (u8s 64 fun _ => 0) 23 ∧ Blk wr gN (u8s 64 (cf (rpw p xs j))) 23 ∧ Below w.heap.size w wr) (fun kk _ => (intOf kk).toNat)
        case atStart => exact ⟨0, by omega, by rw [Nat.sub_zero], hA1, hZ1, hN, hb2⟩
        case round =>
          clear hA1 hZ1 hN hb2
          obtain ⟨j, hj, rfl, hA1, hZ1, hN, hb2⟩ := hrel
          by_cases hlt : j < n
          · have hl1 : (rpw p xs (j + 1)).length ≤ 64 := by
              rw [hlenH.out]
              have h6 : N * (j + 1) ≤ N * n := Nat.mul_le_mul_left _ hlt
              have := hNnH.out; omega
            have hl0 : (rpw p xs j).length ≤ 64 := by
              rw [hlenH.out]
              have h6 : N * j ≤ N * n := Nat.mul_le_mul_left _ hj
              have := hNnH.out; omega
            have ht := Lib.hid (fun w => show Calls Try.prog 50 #[.int .i64 p, .agg (u8s 64 (cf (rpw p xs j))), .agg (u8s 64 (cf xs))] w fun e w' => e = .returned (.tuple #[.agg (u8s 64 (cf (rpw p xs (j + 1)))), .bool true]) ∧ Below w.heap.size w w' from l01Times_in (rpw p xs j) xs p w ⟨HX.out.pr, hrPH.out j, hl0⟩ HX.out hl1)
            have hpos : 0 < ((n - j : Nat) : Int) := by omega
            have hqH := Lib.hid (show j + 1 ≤ n ∧ ((n - j : Nat) : Int) - 1 = ((n - (j + 1) : Nat) : Int) by omega)
            have hDn : ((n - j : Nat) : Int) ≤ 63 := by omega
            obtain ⟨D, hD⟩ : ∃ D : Nat, n - j = D := ⟨_, rfl⟩
            rw [hD] at hpos hqH hDn ⊢
            clear hl1 hl0 hj hlt hD
            go_wp2_with ((with_reducible refine wpl_guard ?_); first | (refine wpl_load_arr rfl 23 _ rfl _ rfl _ _ hN _ _ uPoly sPoly ?_) | (refine wpl_load_arr rfl 23 _ rfl _ rfl _ _ hA1 _ _ uPoly sPoly ?_))
            refine (ht.out _).mono ?_
            rintro e w8 ⟨rfl, hn⟩
            replace hA1 := hA1.keep hn
            replace hZ1 := hZ1.keep hn
            replace hN := hN.keep hn
            replace hb2 := below_step hb2 hn
            clear hn
            have hg8 := hN.lt
            go_upto_region 24 with ((with_reducible refine wpl_guard ?_); first | (refine wpl_new1 23 zPoly sPoly _ _ rfl rfl rfl rfl rfl rfl _ rfl ?_; intro w9 hn hM9; replace hA1 := hA1.keep hn; replace hZ1 := hZ1.keep hn; replace hN := hN.keep hn; replace hb2 := below_step hb2 hn; clear hn))
            refine wp_copy (s := 81) 23 rfl rfl (.tmp 13) (.tmp 12) rfl rfl rfl rfl hM9 hN (by kernel_rfl) (by kernel_rfl) (by kernel_rfl) uPoly sPoly ?_
            intro z9 khN hk9 hB9
            replace hA1 := hk9 _ _ _ (by omega) hA1
            replace hZ1 := hk9 _ _ _ (by omega) hZ1
            replace hb2 := hB9 _ _ hb2 (by omega)
            clear hN hk9 hB9
            have hN := khN
            clear khN
            simp only [Act.put, List.setIfInBounds_toArray, List.set_cons_zero, List.set_cons_succ]
            go_wp2_with fail
            go_roundw
            case rel => exact ⟨j + 1, hqH.out.1, by first | (rw [← hqH.out.2]) | (congr 1; exact hqH.out.2), hA1, hZ1, hN, hb2⟩
            case measure => simp [intOf] <;> omega
          · obtain rfl : j = n := by omega
            rw [hMsH.out] at hN
            rw [Nat.sub_self]
            go_wp2_with ((with_reducible refine wpl_guard ?_); first | (refine wpl_load_arr rfl 23 _ rfl _ rfl _ _ hN _ _ uPoly sPoly ?_) | (refine wpl_store_arr rfl 23 _ _ rfl _ rfl _ rfl _ _ hZ1 sPoly (by simp only [u8s_size]) (u8s_oneCell _ _) ?_))
            exact bodyPost_ret (res_ct (x := .int .i64 0) rfl rfl (hZ1.setRow_same (cs := u8s 64 (cf M))) uPoly sPoly rfl) rfl ⟨hend.out, below_setRow hb2 (by omega) _⟩
      · have h3i : 63 < (N : Int) * (n : Int) := by
          have h6 : (64 : Int) ≤ ((N * n : Nat) : Int) := by omega
          rw [Int.natCast_mul] at h6; omega
        have hend := Lib.hid (hlim (by omega))
        clear hlen hMs hlM hlim hNn hL0 hL1 hn0
        go_wp2_with (first | (go_at_call 67; refine (l01In_any _ _ _ _ _ hcT.out).mono ?_; rintro e w' ⟨rfl, rfl⟩) | ((with_reducible refine wpl_guard ?_); first | (refine wpl_build_zero rfl 23 64 5 rfl _ uPoly sByte zPoly ?_) | (refine wpl_store_arr rfl 23 _ _ rfl _ rfl _ rfl _ _ hZ1 sPoly (by simp only [u8s_size]) (u8s_oneCell _ _) ?_)))
        exact bodyPost_ret (res_ct (x := .int .i64 3) rfl rfl (hZ1.setRow_same (cs := u8s 64 fun _ => 0)) uPoly sPoly rfl) rfl ⟨hend.out, below_setRow hb2 (by omega) _⟩
    · have hki : 63 < (n : Int) := by omega
      have hend := Lib.hid (hlim (by
        have h6 : 1 * n ≤ N * n := Nat.mul_le_mul_right _ hN1
        omega))
      clear hlen hMs hlM hlim hL0 hL1 hn0
      go_wp2_with (first | (go_at_call 67; refine (l01In_any _ _ _ _ _ hcT.out).mono ?_; rintro e w' ⟨rfl, rfl⟩) | ((with_reducible refine wpl_guard ?_); first | (refine wpl_build_zero rfl 23 64 5 rfl _ uPoly sByte zPoly ?_) | (refine wpl_store_arr rfl 23 _ _ rfl _ rfl _ rfl _ _ hZ1 sPoly (by simp only [u8s_size]) (u8s_oneCell _ _) ?_)))
      exact bodyPost_ret (res_ct (x := .int .i64 3) rfl rfl (hZ1.setRow_same (cs := u8s 64 fun _ => 0)) uPoly sPoly rfl) rfl ⟨hend.out, below_setRow hb2 (by omega) _⟩
theorem PowerOf_pair (p : Int) (f : Nat → Int) (k : Int) (_ : (Lit.int .i64 p).wf = true) (hf : By f) (_ : (Lit.int .i64 k).wf = true) : ∃ (r0 : (Nat → Int)) (r1 : Int),
    (∀ w, Calls Try.prog 36 #[.int .i64 p, .agg (u8s 64 f), .int .i64 k] w fun e w' => e = .returned (.tuple #[.agg (u8s 64 r0), .int .i64 r1]) ∧ Below w.heap.size w w') ∧
    (∀ w, Calls Try.prog 37 #[.int .i64 p, .agg (u8s 64 f), .int .i64 k] w fun e w' => e = .returned (.tuple #[.agg (u8s 64 r0), .int .i64 r1]) ∧ Below w.heap.size w w') := by
  obtain ⟨b, hb⟩ := dec_true (Good p [f])
  exact ⟨_, _, fun w => specPowerOf_any p f k w hf b hb _ rfl, fun w => implPowerOf_any p f k w hf b hb _ rfl⟩
end Go.Proofs.Ythkkicanockhgaa

/- The law FnDivisors, walked. -/
import Derived.Test.YtddgbnkojdmekaaDv3
import Derived.Deep.DeepCutAuto
set_option linter.unusedVariables false
set_option linter.unusedSimpArgs false
namespace Go.Proofs.Ytddgbnkojdmekaa
open Go.RowKit
theorem Val_pack (p : Int) (f : Nat → Int) (x : Int) (hf : By f) : ∃ (r : Int) (c : Int), (∀ w, Calls Try.prog 16 #[.int .i64 p, .agg (u8s 64 f), .int .i64 x] w fun e w' => e = .returned (.tuple #[.int .i64 r, .int .i64 c]) ∧ Below w.heap.size w w') ∧ (∀ w, Calls Try.prog 18 #[.int .i64 p, .agg (u8s 64 f), .int .i64 x] w fun e w' => e = .returned (.tuple #[.int .i64 r, .int .i64 c]) ∧ Below w.heap.size w w') := by
  obtain ⟨b, hb⟩ := dec_true (Good p [f])
  exact ⟨_, _, fun w => implValueAt_any f p x w hf b _ hb rfl, fun w => specValueAt_any f p x w hf b _ hb rfl⟩
theorem Der_pack (p : Int) (f : Nat → Int)  (hf : By f) : ∃ (r : Nat → Int) (c : Int), (∀ w, Calls Try.prog 20 #[.int .i64 p, .agg (u8s 64 f)] w fun e w' => e = .returned (.tuple #[.agg (u8s 64 r), .int .i64 c]) ∧ Below w.heap.size w w') ∧ (∀ w, Calls Try.prog 21 #[.int .i64 p, .agg (u8s 64 f)] w fun e w' => e = .returned (.tuple #[.agg (u8s 64 r), .int .i64 c]) ∧ Below w.heap.size w w') := by
  obtain ⟨b, hb⟩ := dec_true (Good p [f])
  exact ⟨_, _, fun w => implDerivativeOf_any f p w hf b hb, fun w => specDerivativeOf_any f p w hf b hb⟩
theorem Sub_pack (p : Int) (f : Nat → Int) (g : Nat → Int) (hf : By f) (hg : By g) : ∃ (r : Nat → Int) (c : Int), (∀ w, Calls Try.prog 23 #[.int .i64 p, .agg (u8s 64 f), .agg (u8s 64 g)] w fun e w' => e = .returned (.tuple #[.agg (u8s 64 r), .int .i64 c]) ∧ Below w.heap.size w w') ∧ (∀ w, Calls Try.prog 24 #[.int .i64 p, .agg (u8s 64 f), .agg (u8s 64 g)] w fun e w' => e = .returned (.tuple #[.agg (u8s 64 r), .int .i64 c]) ∧ Below w.heap.size w w') := by
  obtain ⟨b, hb⟩ := dec_true (Good p [f, g])
  exact ⟨_, _, fun w => implSubtractPolys_any f g p w hf hg b hb, fun w => specSubtractPolys_any f g p w hf hg b hb⟩
theorem Gcd_pack (p : Int) (f : Nat → Int) (g : Nat → Int) (hf : By f) (hg : By g) : ∃ (r : Nat → Int) (c : Int), (∀ w, Calls Try.prog 8 #[.int .i64 p, .agg (u8s 64 f), .agg (u8s 64 g)] w fun e w' => e = .returned (.tuple #[.agg (u8s 64 r), .int .i64 c]) ∧ Below w.heap.size w w') ∧ (∀ w, Calls Try.prog 26 #[.int .i64 p, .agg (u8s 64 f), .agg (u8s 64 g)] w fun e w' => e = .returned (.tuple #[.agg (u8s 64 r), .int .i64 c]) ∧ Below w.heap.size w w') := by
  obtain ⟨b, hb⟩ := dec_true (Good p [f, g])
  exact ⟨_, _, fun w => implGcdOf_any p f g w hf hg b hb _ _ rfl rfl _ rfl, fun w => specGcdOf_any p f g w hf hg b hb _ _ rfl rfl _ rfl⟩
set_option maxRecDepth 20000 in
set_option maxHeartbeats 16000000 in
theorem FnDivisors_walk (oa : Option Addr) (n c : Nat) (w : World) (hnm : n ≤ maxLen) (hc : CodeAt w oa n) :
    Calls Try.prog 3 #[.slice oa n c] w fun e w' => e = .returned (.bool true) ∧ Below w.heap.size w w' := by
  have hbg := fun w => big_any oa n c w hnm
  obtain ⟨bg, hbe⟩ : ∃ b, decide (4096 < (n : Int)) = b := ⟨_, rfl⟩
  rw [hbe] at hbg
  have hbgH := Lib.hid hbg
  have hD := Lib.hid (DrawBezoutOf_any oa n c w hnm hc)
  have hcH := Lib.hid hc
  have hnmH := Lib.hid hnm
  clear hbg hbe hc hnm
  go_enter Try.func3, Try.ntmps3
  go_wp2_with fail
  refine (hbgH.out _).mono ?_
  rintro e w0 ⟨rfl, rfl⟩
  cases bg
  rotate_left
  · go_wp2_with fail
    go_ret
    exact ⟨rfl, Below.refl _ _⟩
  go_wp2_with fail
  refine hD.out.mono ?_
  rintro e w1 ⟨p, f, h, rfl, hp0, hp1, hf, hh, hb⟩
  clear hD hbgH
  have hA0 := (Blk.new w1 (u8s 64 fun _ => 0) 25).alloc (.cells (u8s 64 fun _ => 0) 25)
  have hB0 := Blk.newAt (w := w1.alloc (.cells (u8s 64 fun _ => 0) 25)) (n := w1.heap.size + 1) (by simp) (u8s 64 fun _ => 0) 25
  have hA1 := hA0.setRow_same (cs := u8s 64 f)
  have hB1 := hB0.setRow_other (g := w1.heap.size) (cs := u8s 64 f) (by omega)
  have h4 := hA1.setRow_other (g := w1.heap.size + 1) (cs := u8s 64 h) (by omega)
  have h5 := hB1.setRow_same (cs := u8s 64 h)
  have hn : Below w1.heap.size w1 ((((w1.alloc (.cells (u8s 64 fun _ => 0) 25)).alloc (.cells (u8s 64 fun _ => 0) 25)).setRow w1.heap.size (u8s 64 f)).setRow (w1.heap.size + 1) (u8s 64 h)) :=
    below_setRow (below_setRow ((below_new w1 _).alloc (by simp) _) (Nat.le_refl _) _) (by omega) _
  replace hb := below_step hb hn
  clear hn
  clear hA1
  go_upto_region 4 with ((with_reducible refine wpl_guard ?_); first | (refine wpl_alloc_arr rfl 25 rfl _ zPoly ?_) | (refine wpl_store_arr rfl 25 _ _ rfl _ rfl (u8s 64 f) rfl (u8s 64 fun _ => 0) 25 hA0 sPoly (by simp only [u8s_size]) (u8s_oneCell _ _) ?_) | (refine wpl_store_arr rfl 25 _ _ rfl _ rfl (u8s 64 h) rfl (u8s 64 fun _ => 0) 25 (by first | exact hB1 | (rw [size_alloc]; exact hB1)) sPoly (by simp only [u8s_size]) (u8s_oneCell _ _) ?_))
  clear hA0 hB0 hB1
  generalize World.setRow _ (w1.heap.size + 1) (u8s 64 h) = x1 at *
  obtain ⟨q1, hq1⟩ : ∃ q, w1.heap.size = q := ⟨_, rfl⟩
  obtain ⟨r1, hr1⟩ : ∃ q, w1.heap.size + 1 = q := ⟨_, rfl⟩
  rw [hq1] at h4
  rw [hr1] at h5
  try rw [hr1]
  try rw [hq1]
  clear hq1 hr1
  obtain ⟨F1, F2, F3, cB, hy1, hy2, hy3, hI', hS', hpk⟩ := Bez_pack p f h hf hh
  have hI := Lib.hid hI'
  have hS := Lib.hid hS'
  have hK := Lib.hid hpk
  have hfH := Lib.hid hf
  have hhH := Lib.hid hh
  clear hI' hS' hpk hf hh
  go_wp2_with ((with_reducible refine wpl_guard ?_); first | (refine wpl_load_arr rfl 25 _ rfl _ rfl _ _ h4 _ _ uPoly sPoly ?_) | (refine wpl_load_arr rfl 25 _ rfl _ rfl _ _ h5 _ _ uPoly sPoly ?_))
  refine (hI.out _).mono ?_
  rintro e x2 ⟨rfl, hn⟩
  replace h4 := h4.keep hn
  replace h5 := h5.keep hn
  replace hb := below_step hb hn
  clear hn
  go_upto_region 5 with ((with_reducible refine wpl_guard ?_); first | (refine wpl_new3 25 zPoly sPoly _ _ rfl rfl rfl rfl rfl _ _ rfl rfl rfl rfl rfl _ _ rfl rfl rfl rfl rfl rfl _ rfl rfl _ rfl rfl _ rfl ?_; intro x3 hn h6 h7 h8; replace h4 := h4.keep hn; replace h5 := h5.keep hn; replace hb := below_step hb hn; clear hn))
  go_wp2_with ((with_reducible refine wpl_guard ?_); first | (refine wpl_load_arr rfl 25 _ rfl _ rfl _ _ h4 _ _ uPoly sPoly ?_) | (refine wpl_load_arr rfl 25 _ rfl _ rfl _ _ h5 _ _ uPoly sPoly ?_))
  refine (hS.out _).mono ?_
  rintro e x4 ⟨rfl, hn⟩
  replace h4 := h4.keep hn
  replace h5 := h5.keep hn
  replace h6 := h6.keep hn
  replace h7 := h7.keep hn
  replace h8 := h8.keep hn
  replace hb := below_step hb hn
  clear hn
  go_upto_region 6 with ((with_reducible refine wpl_guard ?_); first | (refine wpl_new3 25 zPoly sPoly _ _ rfl rfl rfl rfl rfl _ _ rfl rfl rfl rfl rfl _ _ rfl rfl rfl rfl rfl rfl _ rfl rfl _ rfl rfl _ rfl ?_; intro x5 hn h10 h11 h12; replace h4 := h4.keep hn; replace h5 := h5.keep hn; replace h6 := h6.keep hn; replace h7 := h7.keep hn; replace h8 := h8.keep hn; replace hb := below_step hb hn; clear hn))
  have hcc : (cB != cB) = false := by simp
  clear hI hS
  go_upto_if 109 with ((with_reducible refine wpl_guard ?_); first | (refine wpl_load_arr rfl 25 _ rfl _ rfl _ _ h6 _ _ uPoly sPoly ?_) | (refine wpl_load_arr rfl 25 _ rfl _ rfl _ _ h10 _ _ uPoly sPoly ?_) | (refine wpl_load_arr rfl 25 _ rfl _ rfl _ _ h7 _ _ uPoly sPoly ?_) | (refine wpl_load_arr rfl 25 _ rfl _ rfl _ _ h11 _ _ uPoly sPoly ?_) | (refine wpl_load_arr rfl 25 _ rfl _ rfl _ _ h8 _ _ uPoly sPoly ?_) | (refine wpl_load_arr rfl 25 _ rfl _ rfl _ _ h12 _ _ uPoly sPoly ?_) | (refine wpl_neq_arr rfl 25 _ _ _ rfl 64 .u8 (F1) (F1) 5 rfl rfl uPoly uByte sByte gPoly _ (decide_eq_true fun _ _ => rfl) ?_) | (refine wpl_neq_arr rfl 25 _ _ _ rfl 64 .u8 (F2) (F2) 5 rfl rfl uPoly uByte sByte gPoly _ (decide_eq_true fun _ _ => rfl) ?_) | (refine wpl_neq_arr rfl 25 _ _ _ rfl 64 .u8 (F3) (F3) 5 rfl rfl uPoly uByte sByte gPoly _ (decide_eq_true fun _ _ => rfl) ?_))
  clear h10 h11 h12 hcc
  have hwb : Below w.heap.size w w := Below.refl _ _
  go_cut [] from 3 (fun wx => Below w.heap.size w wx)
  case first =>
    as_aux_lemma =>
      by_cases hz : cB = 0
      rotate_left
      · have hcb : (cB == 0) = false := by simpa using hz
        go_wp2
        go_meet
        case rel => exact hb
      obtain ⟨Dg, U, V, rfl, rfl, rfl, hx, hy, hDg, hU, hV, hok, hGcd'⟩ := hK.out hz
      obtain ⟨Q1, hQ1'⟩ := Div_pack hfH.out hx hDg hok.ne hok.da
      obtain ⟨Q2, hQ2'⟩ := Div_pack hhH.out hy hDg hok.ne hok.db
      obtain ⟨M1, c1, hMb1, hM1', hMp1⟩ := Mul_pack hfH.out hx hU
      obtain ⟨M2, c2, hMb2, hM2', hMp2⟩ := Mul_pack hhH.out hy hV
      have hAd := Lib.hid (fun (e1 : c1 = 0) (e2 : c2 = 0) (w : World) => (by
        obtain ⟨rfl, k1⟩ := hMp1 e1
        obtain ⟨rfl, k2⟩ := hMp2 e2
        exact Add_pack k1 k2 (divs_sum hx.pr hok) w : Calls Try.prog 11 #[.int .i64 p, .agg (u8s 64 M1), .agg (u8s 64 M2)] w fun e w' => e = .returned (.tuple #[.agg (u8s 64 (cf Dg)), .int .i64 0]) ∧ Below w.heap.size w w'))
      have hGcd := Lib.hid hGcd'
      have hQ1 := Lib.hid hQ1'
      have hQ2 := Lib.hid hQ2'
      have hM1 := Lib.hid hM1'
      have hM2 := Lib.hid hM2'
      obtain ⟨F1, hF1⟩ : ∃ F, cf Dg = F := ⟨_, rfl⟩
      obtain ⟨F2, hF2⟩ : ∃ F, cf U = F := ⟨_, rfl⟩
      obtain ⟨F3, hF3⟩ : ∃ F, cf V = F := ⟨_, rfl⟩
      rw [hF1] at h6 hGcd hQ1 hQ2 hAd
      rw [hF2] at h7 hM1
      rw [hF3] at h8 hM2
      have hcb : (cB == 0) = true := by simpa using hz
      clear hGcd' hQ1' hQ2' hM1' hM2' hMp1 hMp2 hMb1 hMb2 hx hy hDg hU hV hok hF1 hF2 hF3 hK hfH hhH hz hy1 hy2 hy3
      go_wp2_with ((with_reducible refine wpl_guard ?_); first | (refine wpl_load_arr rfl 25 _ rfl _ rfl _ _ h4 _ _ uPoly sPoly ?_) | (refine wpl_load_arr rfl 25 _ rfl _ rfl _ _ h5 _ _ uPoly sPoly ?_))
      refine (hGcd.out _).mono ?_
      rintro e x6 ⟨rfl, hn⟩
      replace h4 := h4.keep hn
      replace h5 := h5.keep hn
      replace h6 := h6.keep hn
      replace h7 := h7.keep hn
      replace h8 := h8.keep hn
      replace hb := below_step hb hn
      clear hn
      go_upto_region 10 with ((with_reducible refine wpl_guard ?_); first | (refine wpl_new1 25 zPoly sPoly _ _ rfl rfl rfl rfl rfl rfl _ rfl ?_; intro x7 hn h14; replace h4 := h4.keep hn; replace h5 := h5.keep hn; replace h6 := h6.keep hn; replace h7 := h7.keep hn; replace h8 := h8.keep hn; replace hb := below_step hb hn; clear hn))
      go_wp2_with ((with_reducible refine wpl_guard ?_); first | (refine wpl_load_arr rfl 25 _ rfl _ rfl _ _ h4 _ _ uPoly sPoly ?_) | (refine wpl_load_arr rfl 25 _ rfl _ rfl _ _ h6 _ _ uPoly sPoly ?_))
      refine (hQ1.out _).mono ?_
      rintro e x8 ⟨rfl, hn⟩
      replace h4 := h4.keep hn
      replace h5 := h5.keep hn
      replace h6 := h6.keep hn
      replace h7 := h7.keep hn
      replace h8 := h8.keep hn
      replace h14 := h14.keep hn
      replace hb := below_step hb hn
      clear hn
      go_upto_region 11 with ((with_reducible refine wpl_guard ?_); first | (refine wpl_new2 25 zPoly sPoly _ _ rfl rfl rfl rfl rfl _ _ rfl rfl rfl rfl rfl rfl _ rfl rfl _ rfl ?_; intro x9 hn h16 h17; replace h4 := h4.keep hn; replace h5 := h5.keep hn; replace h6 := h6.keep hn; replace h7 := h7.keep hn; replace h8 := h8.keep hn; replace h14 := h14.keep hn; replace hb := below_step hb hn; clear hn))
      go_wp2_with ((with_reducible refine wpl_guard ?_); first | (refine wpl_load_arr rfl 25 _ rfl _ rfl _ _ h5 _ _ uPoly sPoly ?_) | (refine wpl_load_arr rfl 25 _ rfl _ rfl _ _ h6 _ _ uPoly sPoly ?_))
      refine (hQ2.out _).mono ?_
      rintro e x10 ⟨rfl, hn⟩
      replace h4 := h4.keep hn
      replace h5 := h5.keep hn
      replace h6 := h6.keep hn
      replace h7 := h7.keep hn
      replace h8 := h8.keep hn
      replace h14 := h14.keep hn
      replace h16 := h16.keep hn
      replace h17 := h17.keep hn
      replace hb := below_step hb hn
      clear hn
      go_upto_region 12 with ((with_reducible refine wpl_guard ?_); first | (refine wpl_new2 25 zPoly sPoly _ _ rfl rfl rfl rfl rfl _ _ rfl rfl rfl rfl rfl rfl _ rfl rfl _ rfl ?_; intro x11 hn h19 h20; replace h4 := h4.keep hn; replace h5 := h5.keep hn; replace h6 := h6.keep hn; replace h7 := h7.keep hn; replace h8 := h8.keep hn; replace h14 := h14.keep hn; replace h16 := h16.keep hn; replace h17 := h17.keep hn; replace hb := below_step hb hn; clear hn))
      go_wp2_with ((with_reducible refine wpl_guard ?_); first | (refine wpl_load_arr rfl 25 _ rfl _ rfl _ _ h7 _ _ uPoly sPoly ?_) | (refine wpl_load_arr rfl 25 _ rfl _ rfl _ _ h4 _ _ uPoly sPoly ?_))
      refine (hM1.out _).mono ?_
      rintro e x12 ⟨rfl, hn⟩
      replace h4 := h4.keep hn
      replace h5 := h5.keep hn
      replace h6 := h6.keep hn
      replace h7 := h7.keep hn
      replace h8 := h8.keep hn
      replace h14 := h14.keep hn
      replace h16 := h16.keep hn
      replace h17 := h17.keep hn
      replace h19 := h19.keep hn
      replace h20 := h20.keep hn
      replace hb := below_step hb hn
      clear hn
      go_upto_region 13 with ((with_reducible refine wpl_guard ?_); first | (refine wpl_new1 25 zPoly sPoly _ _ rfl rfl rfl rfl rfl rfl _ rfl ?_; intro x13 hn h22; replace h4 := h4.keep hn; replace h5 := h5.keep hn; replace h6 := h6.keep hn; replace h7 := h7.keep hn; replace h8 := h8.keep hn; replace h14 := h14.keep hn; replace h16 := h16.keep hn; replace h17 := h17.keep hn; replace h19 := h19.keep hn; replace h20 := h20.keep hn; replace hb := below_step hb hn; clear hn))
      go_wp2_with ((with_reducible refine wpl_guard ?_); first | (refine wpl_load_arr rfl 25 _ rfl _ rfl _ _ h8 _ _ uPoly sPoly ?_) | (refine wpl_load_arr rfl 25 _ rfl _ rfl _ _ h5 _ _ uPoly sPoly ?_))
      refine (hM2.out _).mono ?_
      rintro e x14 ⟨rfl, hn⟩
      replace h4 := h4.keep hn
      replace h5 := h5.keep hn
      replace h6 := h6.keep hn
      replace h7 := h7.keep hn
      replace h8 := h8.keep hn
      replace h14 := h14.keep hn
      replace h16 := h16.keep hn
      replace h17 := h17.keep hn
      replace h19 := h19.keep hn
      replace h20 := h20.keep hn
      replace h22 := h22.keep hn
      replace hb := below_step hb hn
      clear hn
      go_upto_region 14 with ((with_reducible refine wpl_guard ?_); first | (refine wpl_new1 25 zPoly sPoly _ _ rfl rfl rfl rfl rfl rfl _ rfl ?_; intro x15 hn h24; replace h4 := h4.keep hn; replace h5 := h5.keep hn; replace h6 := h6.keep hn; replace h7 := h7.keep hn; replace h8 := h8.keep hn; replace h14 := h14.keep hn; replace h16 := h16.keep hn; replace h17 := h17.keep hn; replace h19 := h19.keep hn; replace h20 := h20.keep hn; replace h22 := h22.keep hn; replace hb := below_step hb hn; clear hn))
      clear hGcd hQ1 hQ2 hM1 hM2 h4 h5 h7 h8 h16 h19
      have e00 : ((0 : Int) != 0) = false := by decide
      go_upto_region 16 with ((with_reducible refine wpl_guard ?_); first | (refine wpl_load_arr rfl 25 _ rfl _ rfl _ _ h14 _ _ uPoly sPoly ?_) | (refine wpl_load_arr rfl 25 _ rfl _ rfl _ _ h6 _ _ uPoly sPoly ?_) | (refine wpl_load_arr rfl 25 _ rfl _ rfl _ _ h17 _ _ uPoly sPoly ?_) | (refine wpl_load_arr rfl 25 _ rfl _ rfl _ _ h20 _ _ uPoly sPoly ?_) | (refine wpl_build_zero rfl 25 64 5 rfl _ uPoly sByte zPoly ?_) | (refine wpl_neq_arr rfl 25 _ _ _ rfl 64 .u8 (F1) (F1) 5 rfl rfl uPoly uByte sByte gPoly _ (decide_eq_true fun _ _ => rfl) ?_) | (refine wpl_neq_arr rfl 25 _ _ _ rfl 64 .u8 (fun _ => 0) (fun _ => 0) 5 rfl rfl uPoly uByte sByte gPoly _ (decide_eq_true fun _ _ => rfl) ?_))
      clear h14 h17 h20
      by_cases e1 : c1 = 0
      rotate_left
      · have e1b : (c1 == 0) = false := by simpa using e1
        go_wp2
        go_meet
        case rel => exact hb
      by_cases e2 : c2 = 0
      rotate_left
      · have e1b : (c1 == 0) = true := by simpa using e1
        have e2b : (c2 == 0) = false := by simpa using e2
        go_wp2
        go_meet
        case rel => exact hb
      have hAd2 := Lib.hid (hAd.out e1 e2)
      have e1b : (c1 == 0) = true := by simpa using e1
      have e2b : (c2 == 0) = true := by simpa using e2
      clear hAd e1 e2
      go_wp2_with ((with_reducible refine wpl_guard ?_); first | (refine wpl_load_arr rfl 25 _ rfl _ rfl _ _ h22 _ _ uPoly sPoly ?_) | (refine wpl_load_arr rfl 25 _ rfl _ rfl _ _ h24 _ _ uPoly sPoly ?_))
      refine (hAd2.out _).mono ?_
      rintro e x16 ⟨rfl, hn⟩
      replace h6 := h6.keep hn
      replace h22 := h22.keep hn
      replace h24 := h24.keep hn
      replace hb := below_step hb hn
      clear hn
      go_upto_region 18 with ((with_reducible refine wpl_guard ?_); first | (refine wpl_new1 25 zPoly sPoly _ _ rfl rfl rfl rfl rfl rfl _ rfl ?_; intro x17 hn h26; replace h6 := h6.keep hn; replace h22 := h22.keep hn; replace h24 := h24.keep hn; replace hb := below_step hb hn; clear hn))
      go_wp2_with ((with_reducible refine wpl_guard ?_); first | (refine wpl_load_arr rfl 25 _ rfl _ rfl _ _ h26 _ _ uPoly sPoly ?_) | (refine wpl_load_arr rfl 25 _ rfl _ rfl _ _ h6 _ _ uPoly sPoly ?_) | (refine wpl_neq_arr rfl 25 _ _ _ rfl 64 .u8 (F1) (F1) 5 rfl rfl uPoly uByte sByte gPoly _ (decide_eq_true fun _ _ => rfl) ?_))
      go_meet
      case rel => exact hb
  case rest =>
    as_aux_lemma =>
      clear hb
      have hb := hcut
      clear hcut hK hfH hhH h4 h5 h6 h7 h8 hwb hy1 hy2 hy3
      have hDr := Lib.hid (DrawRootsOf_any oa n c wc hnmH.out (hcH.out.below hb))
      go_wp2_with fail
      refine hDr.out.mono ?_
      rintro e w20 ⟨p2, f2, rfl, hp20, hp21, hf2, hn⟩
      replace hb := below_step hb hn
      clear hn
      have h29 := Blk.new w20 (u8s 64 f2) 25
      have hn := below_new w20 (.cells (u8s 64 f2) 25)
      replace hb := below_step hb hn
      clear hn
      go_upto_region 21 with ((with_reducible refine wpl_guard ?_); first | (refine wpl_alloc_arr rfl 25 rfl _ zPoly ?_) | (refine wpl_store_new rfl 25 _ _ rfl _ rfl rfl _ rfl sPoly (by simp only [u8s_size]) (u8s_oneCell _ _) ?_))
      generalize World.alloc _ (.cells (u8s 64 f2) 25) = x1 at *
      obtain ⟨q1, hq1⟩ : ∃ q, w20.heap.size = q := ⟨_, rfl⟩
      rw [hq1] at h29
      try rw [hq1]
      clear hq1
      obtain ⟨R, cR, hRl, hRs', hRi', hRv'⟩ := Roots_pack p2 f2 hf2
      have hRs := Lib.hid hRs'
      have hRi := Lib.hid hRi'
      have hRv := Lib.hid hRv'
      have hRlI : (R.length : Int) ≤ 7 := by omega
      clear hRs' hRi' hRv' hDr hf2
      go_wp2_with ((with_reducible refine wpl_guard ?_); first | (refine wpl_load_arr rfl 25 _ rfl _ rfl _ _ h29 _ _ uPoly sPoly ?_))
      refine (hRi.out _).mono ?_
      rintro e w21 ⟨vi, rfl, hoi, hn⟩
      replace h29 := h29.keep hn
      replace hb := below_step hb hn
      clear hn
      have hri := hoi.row
      clear hoi
      go_upto_region 22 with (fail)
      go_wp2_with ((with_reducible refine wpl_guard ?_); first | (refine wpl_load_arr rfl 25 _ rfl _ rfl _ _ h29 _ _ uPoly sPoly ?_))
      refine (hRs.out _).mono ?_
      rintro e w22 ⟨vs, rfl, hos, hn⟩
      replace h29 := h29.keep hn
      replace hri := hri.below hn
      replace hb := below_step hb hn
      clear hn
      have hrs := hos.row
      clear hos
      have hcc : (cR != cR) = false := by simp
      have hLk := Lib.hid (likeInts_same vi vs R _ hri hrs)
      obtain ⟨oi, ci, rfl, hile, hicap, hicell⟩ := hri
      obtain ⟨os, cs, rfl, hsle, hscap, hscell⟩ := hrs
      have hic := Lib.hid hicell
      have hiR0 : IsRow w22 (.slice oi R.length ci) R := ⟨oi, ci, rfl, hile, hicap, hicell⟩
      have hiH := Lib.hid hiR0
      clear hiR0
      clear hicell hscell hscap hsle hRs hRi
      go_upto_region 25 with (fail)
      refine hLk.out.mono ?_
      rintro e w23 ⟨rfl, hn⟩
      replace hiH := Lib.hid (hiH.out.below hn)
      replace h29 := h29.keep hn
      replace hb := below_step hb hn
      clear hn
      clear hLk hcc
      go_wp2_with fail
      go_loopw [34] (fun i wr => ∃ k : Nat, k ≤ R.length ∧ i = .int .i64 (k : Int) ∧ IsRow wr (.slice oi R.length ci) R ∧ Blk wr q1 (u8s 64 f2) 25 ∧ Below w.heap.size w wr) (fun i _ => R.length - (intOf i).toNat)
      case atStart => exact ⟨0, Nat.zero_le _, rfl, hiH.out, h29, hb⟩
      case round =>
        clear hiH h29 hb
        obtain ⟨k, hk, rfl, hiR, h29, hb⟩ := hrel
        by_cases hlt : k < R.length
        · obtain ⟨b9, o9, rfl, hc9⟩ := hic.out (by omega)
          have hck0 := (hiR : IsRow wr (.slice (some ⟨b9, o9, none⟩) R.length ci) R)
          have hck : wr.cell? ⟨b9, o9 + k, none⟩ = some (.int .i64 (cf R k)) := by
            obtain ⟨oa2, ca2, e2, _, _, hq2⟩ := hck0
            cases e2
            obtain ⟨b2, o2, e3, hq3⟩ := hq2 (by omega)
            cases e3
            exact hq3 k hlt
          have hckH := Lib.hid hck
          clear hck hck0 hc9 hic
          have hltb : decide ((k : Int) < (R.length : Int)) = true := by simpa using hlt
          have e00 : ((0 : Int) != 0) = false := by decide
          go_upto_region 28 with (fail)
          have hiX := hiR
          refine gen_guard (w := _) (by kernel_rfl) (by kernel_rfl) (by kernel_rfl)
              (fun i => ([fun zv _ => zv = .int .i64 p2, fun zv _ => zv = .agg (u8s 64 f2), fun zv _ => zv = .slice (some ⟨b9, o9, none⟩) R.length ci, fun zv _ => zv = .int .i64 (k : Int), fun zv _ => zv = .pointer (some ⟨b9, o9 + k, none⟩), fun zv _ => zv = .int .i64 (cf R k), fun zv _ => zv = .tuple #[.int .i64 0, .int .i64 0], fun zv _ => zv = .tuple #[.int .i64 0, .int .i64 0], fun zv _ => zv = .int .i64 0, fun zv _ => zv = .int .i64 0, fun zv _ => zv = .int .i64 0, fun zv _ => zv = .int .i64 0] : List (Value → World → Prop)).getD i (fun _ _ => True))
              (fun w' => Blk w' (q1) (u8s 64 f2) 25 ∧ True) ⟨h29.drew, trivial⟩ (fun w1 w2 h hb => ⟨h.1.keep hb, trivial⟩) ?_ ?_ ?_
          · intro i v w1 w2 h hb
            rcases i with _|_|_|_|_|_|_|_|_|_|_|_|i
            · exact h
            · exact h
            · exact h
            · exact h
            · exact h
            · exact h
            · exact h
            · exact h
            · exact h
            · exact h
            · exact h
            · exact h
            · exact h
          · intro i o ho a w2 hBl hSx hrd hpar
            rcases i with _|_|_|_|_|_|_|_|_|_|_|_|i
            · obtain rfl := Option.some.inj ho
              refine .inl ⟨rfl, ?_⟩
              have e28 : a.eval (.tmp 28) = .int .i64 p2 := hpar 28 _ (by kernel_rfl) (by kernel_rfl)
              exact wpv_of (wp_move _ _ rfl e28) (fun _ _ => rfl)
            · obtain rfl := Option.some.inj ho
              refine .inl ⟨rfl, ?_⟩
              exact wpv_of (wp_loadB 25 _ rfl _ (hpar 29 (.pointer (some ⟨q1, 0, none⟩)) (by kernel_rfl) (by kernel_rfl)) _ _ hSx.1 _ _ uPoly sPoly) (fun _ _ => rfl)
            · obtain rfl := Option.some.inj ho
              refine .inl ⟨rfl, ?_⟩
              have e30 : a.eval (.tmp 30) = .slice (some ⟨b9, o9, none⟩) R.length ci := hpar 30 _ (by kernel_rfl) (by kernel_rfl)
              exact wpv_of (wp_move _ _ rfl e30) (fun _ _ => rfl)
            · obtain rfl := Option.some.inj ho
              refine .inl ⟨rfl, ?_⟩
              have e34 : a.eval (.tmp 34) = .int .i64 (k : Int) := hpar 34 _ (by kernel_rfl) (by kernel_rfl)
              exact wpv_of (wp_move _ _ rfl e34) (fun _ _ => rfl)
            · obtain rfl := Option.some.inj ho
              refine .inl ⟨rfl, ?_⟩
              have e227 : a.eval (.tmp 227) = .slice (some ⟨b9, o9, none⟩) R.length ci := hrd 2 _ 227 rfl rfl (by kernel_rfl) (by kernel_rfl)
              have e228 : a.eval (.tmp 228) = .int .i64 (k : Int) := hrd 3 _ 228 rfl rfl (by kernel_rfl) (by kernel_rfl)
              exact wpv_of (wp_index_row 36 2 _ _ rfl Try.underlying36 sInt b9 o9 R.length ci k .i64 e227 e228 hlt) (fun _ _ => rfl)
            · obtain rfl := Option.some.inj ho
              refine .inl ⟨rfl, ?_⟩
              have e229 : a.eval (.tmp 229) = .pointer (some ⟨b9, o9 + k, none⟩) := hrd 4 _ 229 rfl rfl (by kernel_rfl) (by kernel_rfl)
              exact wpv_of (wp_load_cell 2 _ rfl _ e229 .i64 uInt _ (cell_below hckH.out hBl)) (fun _ _ => rfl)
            · obtain rfl := Option.some.inj ho
              refine .inl ⟨rfl, ?_⟩
              have e225 : a.eval (.tmp 225) = .int .i64 p2 := hrd 0 _ 225 rfl rfl (by kernel_rfl) (by kernel_rfl)
              have e226 : a.eval (.tmp 226) = .agg (u8s 64 f2) := hrd 1 _ 226 rfl rfl (by kernel_rfl) (by kernel_rfl)
              have e230 : a.eval (.tmp 230) = .int .i64 (cf R k) := hrd 5 _ 230 rfl rfl (by kernel_rfl) (by kernel_rfl)
              exact wpv_call 16 [.tmp 225, .tmp 226, .tmp 230] _ rfl [.int .i64 p2, .agg (u8s 64 f2), .int .i64 (cf R k)] (by simp only [List.map_cons, List.map_nil, e225, e226, e230]) Try.call16 ((hRv.out k hlt w2).mono fun _ _ h => ⟨_, h.1, rfl, h.2⟩)
            · obtain rfl := Option.some.inj ho
              refine .inl ⟨rfl, ?_⟩
              have e231 : a.eval (.tmp 231) = .tuple #[.int .i64 0, .int .i64 0] := hrd 6 _ 231 rfl rfl (by kernel_rfl) (by kernel_rfl)
              exact wpv_of (wp_move _ _ rfl e231) (fun _ _ => rfl)
            · obtain rfl := Option.some.inj ho
              refine .inl ⟨rfl, ?_⟩
              have e224 : a.eval (.tmp 224) = .tuple #[.int .i64 0, .int .i64 0] := hrd 7 _ 224 rfl rfl (by kernel_rfl) (by kernel_rfl)
              exact wpv_of (wp_extract _ 0 #[.int .i64 0, .int .i64 0] _ rfl e224 rfl) (fun _ _ => rfl)
            · obtain rfl := Option.some.inj ho
              refine .inl ⟨rfl, ?_⟩
              have e224 : a.eval (.tmp 224) = .tuple #[.int .i64 0, .int .i64 0] := hrd 7 _ 224 rfl rfl (by kernel_rfl) (by kernel_rfl)
              exact wpv_of (wp_extract _ 1 #[.int .i64 0, .int .i64 0] _ rfl e224 rfl) (fun _ _ => rfl)
            · obtain rfl := Option.some.inj ho
              refine .inl ⟨rfl, ?_⟩
              have e232 : a.eval (.tmp 232) = .int .i64 0 := hrd 8 _ 232 rfl rfl (by kernel_rfl) (by kernel_rfl)
              exact wpv_of (wp_assign _ _ rfl e232) (fun _ _ => rfl)
            · obtain rfl := Option.some.inj ho
              refine .inl ⟨rfl, ?_⟩
              have e233 : a.eval (.tmp 233) = .int .i64 0 := hrd 9 _ 233 rfl rfl (by kernel_rfl) (by kernel_rfl)
              exact wpv_of (wp_assign _ _ rfl e233) (fun _ _ => rfl)
            · simp at ho
          intro vals xV hBx hSx hc0
          have e0 : vals 0 = .int .i64 p2 := hc0 0 (by simp)
          have e1 : vals 1 = .agg (u8s 64 f2) := hc0 1 (by simp)
          have e2 : vals 2 = .slice (some ⟨b9, o9, none⟩) R.length ci := hc0 2 (by simp)
          have e3 : vals 3 = .int .i64 (k : Int) := hc0 3 (by simp)
          have e4 : vals 4 = .pointer (some ⟨b9, o9 + k, none⟩) := hc0 4 (by simp)
          have e5 : vals 5 = .int .i64 (cf R k) := hc0 5 (by simp)
          have e6 : vals 6 = .tuple #[.int .i64 0, .int .i64 0] := hc0 6 (by simp)
          have e7 : vals 7 = .tuple #[.int .i64 0, .int .i64 0] := hc0 7 (by simp)
          have e8 : vals 8 = .int .i64 0 := hc0 8 (by simp)
          have e9 : vals 9 = .int .i64 0 := hc0 9 (by simp)
          have e10 : vals 10 = .int .i64 0 := hc0 10 (by simp)
          have e11 : vals 11 = .int .i64 0 := hc0 11 (by simp)
          simp only [List.length_cons, List.length_nil, Nat.zero_add, Nat.reduceAdd, List.replicate, putAll, if_true, Act.put, List.setIfInBounds_toArray, List.set_cons_zero, List.set_cons_succ, e0, e1, e2, e3, e4, e5, e6, e7, e8, e9, e10, e11]
          replace h29 := hSx.1
          replace hb := below_step hb hBx
          clear hc0 hSx e0 e1 e2 e3 e4 e5 e6 e7 e8 e9 e10 e11
          replace hiR := hiR.below hBx
          clear hiX
          go_wp2_with fail
          go_roundw
          case rel => exact ⟨k + 1, by omega, by go_num, hiR, h29, hb⟩
          case measure => simp [intOf] <;> omega
        · obtain rfl : k = R.length := by omega
          clear hiR h29 hic hRv hRl hRlI
          have hltb : decide ((R.length : Int) < (R.length : Int)) = false := by simp
          have hDr := Lib.hid (DrawValueAt_any oa n c wr hnmH.out (hcH.out.below hb))
          go_wp2_with fail
          refine hDr.out.mono ?_
          rintro e w31 ⟨p3, f3, x3, rfl, hp30, hp31, hx30, hx31, hf3, hn⟩
          replace hb := below_step hb hn
          clear hn
          have h38 := Blk.new w31 (u8s 64 f3) 25
          have hn := below_new w31 (.cells (u8s 64 f3) 25)
          replace hb := below_step hb hn
          clear hn
          go_upto_region 32 with ((with_reducible refine wpl_guard ?_); first | (refine wpl_alloc_arr rfl 25 rfl _ zPoly ?_) | (refine wpl_store_new rfl 25 _ _ rfl _ rfl rfl _ rfl sPoly (by simp only [u8s_size]) (u8s_oneCell _ _) ?_))
          generalize World.alloc _ (.cells (u8s 64 f3) 25) = x2 at *
          obtain ⟨q2, hq2⟩ : ∃ q, w31.heap.size = q := ⟨_, rfl⟩
          rw [hq2] at h38
          try rw [hq2]
          clear hq2
          obtain ⟨v3, c3, hI3', hS3'⟩ := Val_pack p3 f3 x3 hf3
          have hI3 := Lib.hid hI3'
          have hS3 := Lib.hid hS3'
          clear hI3' hS3' hDr hf3
          go_wp2_with ((with_reducible refine wpl_guard ?_); first | (refine wpl_load_arr rfl 25 _ rfl _ rfl _ _ h38 _ _ uPoly sPoly ?_))
          refine (hI3.out _).mono ?_
          rintro e x3 ⟨rfl, hn⟩
          replace h38 := h38.keep hn
          replace hb := below_step hb hn
          clear hn
          go_upto_region 33 with (fail)
          go_wp2_with ((with_reducible refine wpl_guard ?_); first | (refine wpl_load_arr rfl 25 _ rfl _ rfl _ _ h38 _ _ uPoly sPoly ?_))
          refine (hS3.out _).mono ?_
          rintro e x4 ⟨rfl, hn⟩
          replace h38 := h38.keep hn
          replace hb := below_step hb hn
          clear hn
          go_upto_region 34 with (fail)
          clear h38 hI3 hS3
          have hDr := Lib.hid (DrawDerivativeOf_any oa n c x4 hnmH.out (hcH.out.below hb))
          go_wp2_with fail
          refine hDr.out.mono ?_
          rintro e w34 ⟨p4, f4, rfl, hp40, hp41, hf4, hn⟩
          replace hb := below_step hb hn
          clear hn
          have h45 := Blk.new w34 (u8s 64 f4) 25
          have hn := below_new w34 (.cells (u8s 64 f4) 25)
          replace hb := below_step hb hn
          clear hn
          go_upto_region 35 with ((with_reducible refine wpl_guard ?_); first | (refine wpl_alloc_arr rfl 25 rfl _ zPoly ?_) | (refine wpl_store_new rfl 25 _ _ rfl _ rfl rfl _ rfl sPoly (by simp only [u8s_size]) (u8s_oneCell _ _) ?_))
          generalize World.alloc _ (.cells (u8s 64 f4) 25) = x5 at *
          obtain ⟨q5, hq5⟩ : ∃ q, w34.heap.size = q := ⟨_, rfl⟩
          rw [hq5] at h45
          try rw [hq5]
          clear hq5
          obtain ⟨F4, c4, hI3', hS3'⟩ := Der_pack p4 f4 hf4
          have hI3 := Lib.hid hI3'
          have hS3 := Lib.hid hS3'
          clear hI3' hS3' hDr hf4
          go_wp2_with ((with_reducible refine wpl_guard ?_); first | (refine wpl_load_arr rfl 25 _ rfl _ rfl _ _ h45 _ _ uPoly sPoly ?_))
          refine (hI3.out _).mono ?_
          rintro e x6 ⟨rfl, hn⟩
          replace h45 := h45.keep hn
          replace hb := below_step hb hn
          clear hn
          go_upto_region 36 with ((with_reducible refine wpl_guard ?_); first | (refine wpl_new1 25 zPoly sPoly _ _ rfl rfl rfl rfl rfl rfl _ rfl ?_; intro x7 hn h46; replace h45 := h45.keep hn; replace hb := below_step hb hn; clear hn))
          go_wp2_with ((with_reducible refine wpl_guard ?_); first | (refine wpl_load_arr rfl 25 _ rfl _ rfl _ _ h45 _ _ uPoly sPoly ?_))
          refine (hS3.out _).mono ?_
          rintro e x8 ⟨rfl, hn⟩
          replace h45 := h45.keep hn
          replace h46 := h46.keep hn
          replace hb := below_step hb hn
          clear hn
          go_upto_region 37 with ((with_reducible refine wpl_guard ?_); first | (refine wpl_new1 25 zPoly sPoly _ _ rfl rfl rfl rfl rfl rfl _ rfl ?_; intro x9 hn h48; replace h45 := h45.keep hn; replace h46 := h46.keep hn; replace hb := below_step hb hn; clear hn))
          clear h45 hI3 hS3
          have hDr := Lib.hid (DrawSubtractPolys_any oa n c x9 hnmH.out (hcH.out.below hb))
          go_wp2_with fail
          refine hDr.out.mono ?_
          rintro e w38 ⟨p5, f5, g5, rfl, hp50, hp51, hf5, hg5, hn⟩
          replace h46 := h46.keep hn
          replace h48 := h48.keep hn
          replace hb := below_step hb hn
          clear hn
          have hA0 := (Blk.new w38 (u8s 64 fun _ => 0) 25).alloc (.cells (u8s 64 fun _ => 0) 25)
          have hB0 := Blk.newAt (w := w38.alloc (.cells (u8s 64 fun _ => 0) 25)) (n := w38.heap.size + 1) (by simp) (u8s 64 fun _ => 0) 25
          have hA1 := hA0.setRow_same (cs := u8s 64 f5)
          have hB1 := hB0.setRow_other (g := w38.heap.size) (cs := u8s 64 f5) (by omega)
          have h51 := hA1.setRow_other (g := w38.heap.size + 1) (cs := u8s 64 g5) (by omega)
          have h52 := hB1.setRow_same (cs := u8s 64 g5)
          have hn : Below w38.heap.size w38 ((((w38.alloc (.cells (u8s 64 fun _ => 0) 25)).alloc (.cells (u8s 64 fun _ => 0) 25)).setRow w38.heap.size (u8s 64 f5)).setRow (w38.heap.size + 1) (u8s 64 g5)) :=
            below_setRow (below_setRow ((below_new w38 _).alloc (by simp) _) (Nat.le_refl _) _) (by omega) _
          replace h46 := h46.keep hn
          replace h48 := h48.keep hn
          replace hb := below_step hb hn
          clear hn
          clear hA1
          go_upto_region 38 with ((with_reducible refine wpl_guard ?_); first | (refine wpl_alloc_arr rfl 25 rfl _ zPoly ?_) | (refine wpl_store_arr rfl 25 _ _ rfl _ rfl (u8s 64 f5) rfl (u8s 64 fun _ => 0) 25 hA0 sPoly (by simp only [u8s_size]) (u8s_oneCell _ _) ?_) | (refine wpl_store_arr rfl 25 _ _ rfl _ rfl (u8s 64 g5) rfl (u8s 64 fun _ => 0) 25 (by first | exact hB1 | (rw [size_alloc]; exact hB1)) sPoly (by simp only [u8s_size]) (u8s_oneCell _ _) ?_))
          clear hA0 hB0 hB1
          generalize World.setRow _ (w38.heap.size + 1) (u8s 64 g5) = x10 at *
          obtain ⟨q10, hq10⟩ : ∃ q, w38.heap.size = q := ⟨_, rfl⟩
          obtain ⟨r10, hr10⟩ : ∃ q, w38.heap.size + 1 = q := ⟨_, rfl⟩
          rw [hq10] at h51
          rw [hr10] at h52
          try rw [hr10]
          try rw [hq10]
          clear hq10 hr10
          obtain ⟨F5, c5, hI3', hS3'⟩ := Sub_pack p5 f5 g5 hf5 hg5
          have hI3 := Lib.hid hI3'
          have hS3 := Lib.hid hS3'
          clear hI3' hS3' hDr hf5 hg5
          go_wp2_with ((with_reducible refine wpl_guard ?_); first | (refine wpl_load_arr rfl 25 _ rfl _ rfl _ _ h51 _ _ uPoly sPoly ?_) | (refine wpl_load_arr rfl 25 _ rfl _ rfl _ _ h52 _ _ uPoly sPoly ?_))
          refine (hI3.out _).mono ?_
          rintro e x11 ⟨rfl, hn⟩
          replace h46 := h46.keep hn
          replace h48 := h48.keep hn
          replace h51 := h51.keep hn
          replace h52 := h52.keep hn
          replace hb := below_step hb hn
          clear hn
          go_upto_region 39 with ((with_reducible refine wpl_guard ?_); first | (refine wpl_new1 25 zPoly sPoly _ _ rfl rfl rfl rfl rfl rfl _ rfl ?_; intro x12 hn h53; replace h46 := h46.keep hn; replace h48 := h48.keep hn; replace h51 := h51.keep hn; replace h52 := h52.keep hn; replace hb := below_step hb hn; clear hn))
          go_wp2_with ((with_reducible refine wpl_guard ?_); first | (refine wpl_load_arr rfl 25 _ rfl _ rfl _ _ h51 _ _ uPoly sPoly ?_) | (refine wpl_load_arr rfl 25 _ rfl _ rfl _ _ h52 _ _ uPoly sPoly ?_))
          refine (hS3.out _).mono ?_
          rintro e x13 ⟨rfl, hn⟩
          replace h46 := h46.keep hn
          replace h48 := h48.keep hn
          replace h51 := h51.keep hn
          replace h52 := h52.keep hn
          replace h53 := h53.keep hn
          replace hb := below_step hb hn
          clear hn
          go_upto_region 40 with ((with_reducible refine wpl_guard ?_); first | (refine wpl_new1 25 zPoly sPoly _ _ rfl rfl rfl rfl rfl rfl _ rfl ?_; intro x14 hn h55; replace h46 := h46.keep hn; replace h48 := h48.keep hn; replace h51 := h51.keep hn; replace h52 := h52.keep hn; replace h53 := h53.keep hn; replace hb := below_step hb hn; clear hn))
          clear h51 h52 hI3 hS3
          have hDr := Lib.hid (DrawGcdOf_any oa n c x14 hnmH.out (hcH.out.below hb))
          go_wp2_with fail
          refine hDr.out.mono ?_
          rintro e w41 ⟨p6, f6, g6, rfl, hp60, hp61, hf6, hg6, hn⟩
          replace h46 := h46.keep hn
          replace h48 := h48.keep hn
          replace h53 := h53.keep hn
          replace h55 := h55.keep hn
          replace hb := below_step hb hn
          clear hn
          have hA0 := (Blk.new w41 (u8s 64 fun _ => 0) 25).alloc (.cells (u8s 64 fun _ => 0) 25)
          have hB0 := Blk.newAt (w := w41.alloc (.cells (u8s 64 fun _ => 0) 25)) (n := w41.heap.size + 1) (by simp) (u8s 64 fun _ => 0) 25
          have hA1 := hA0.setRow_same (cs := u8s 64 f6)
          have hB1 := hB0.setRow_other (g := w41.heap.size) (cs := u8s 64 f6) (by omega)
          have h58 := hA1.setRow_other (g := w41.heap.size + 1) (cs := u8s 64 g6) (by omega)
          have h59 := hB1.setRow_same (cs := u8s 64 g6)
          have hn : Below w41.heap.size w41 ((((w41.alloc (.cells (u8s 64 fun _ => 0) 25)).alloc (.cells (u8s 64 fun _ => 0) 25)).setRow w41.heap.size (u8s 64 f6)).setRow (w41.heap.size + 1) (u8s 64 g6)) :=
            below_setRow (below_setRow ((below_new w41 _).alloc (by simp) _) (Nat.le_refl _) _) (by omega) _
          replace h46 := h46.keep hn
          replace h48 := h48.keep hn
          replace h53 := h53.keep hn
          replace h55 := h55.keep hn
          replace hb := below_step hb hn
          clear hn
          clear hA1
          go_upto_region 41 with ((with_reducible refine wpl_guard ?_); first | (refine wpl_alloc_arr rfl 25 rfl _ zPoly ?_) | (refine wpl_store_arr rfl 25 _ _ rfl _ rfl (u8s 64 f6) rfl (u8s 64 fun _ => 0) 25 hA0 sPoly (by simp only [u8s_size]) (u8s_oneCell _ _) ?_) | (refine wpl_store_arr rfl 25 _ _ rfl _ rfl (u8s 64 g6) rfl (u8s 64 fun _ => 0) 25 (by first | exact hB1 | (rw [size_alloc]; exact hB1)) sPoly (by simp only [u8s_size]) (u8s_oneCell _ _) ?_))
          clear hA0 hB0 hB1
          generalize World.setRow _ (w41.heap.size + 1) (u8s 64 g6) = x15 at *
          obtain ⟨q15, hq15⟩ : ∃ q, w41.heap.size = q := ⟨_, rfl⟩
          obtain ⟨r15, hr15⟩ : ∃ q, w41.heap.size + 1 = q := ⟨_, rfl⟩
          rw [hq15] at h58
          rw [hr15] at h59
          try rw [hr15]
          try rw [hq15]
          clear hq15 hr15
          obtain ⟨F6, c6, hI3', hS3'⟩ := Gcd_pack p6 f6 g6 hf6 hg6
          have hI3 := Lib.hid hI3'
          have hS3 := Lib.hid hS3'
          clear hI3' hS3' hDr hf6 hg6
          go_wp2_with ((with_reducible refine wpl_guard ?_); first | (refine wpl_load_arr rfl 25 _ rfl _ rfl _ _ h58 _ _ uPoly sPoly ?_) | (refine wpl_load_arr rfl 25 _ rfl _ rfl _ _ h59 _ _ uPoly sPoly ?_))
          refine (hI3.out _).mono ?_
          rintro e x16 ⟨rfl, hn⟩
          replace h46 := h46.keep hn
          replace h48 := h48.keep hn
          replace h53 := h53.keep hn
          replace h55 := h55.keep hn
          replace h58 := h58.keep hn
          replace h59 := h59.keep hn
          replace hb := below_step hb hn
          clear hn
          go_upto_region 42 with ((with_reducible refine wpl_guard ?_); first | (refine wpl_new1 25 zPoly sPoly _ _ rfl rfl rfl rfl rfl rfl _ rfl ?_; intro x17 hn h60; replace h46 := h46.keep hn; replace h48 := h48.keep hn; replace h53 := h53.keep hn; replace h55 := h55.keep hn; replace h58 := h58.keep hn; replace h59 := h59.keep hn; replace hb := below_step hb hn; clear hn))
          go_wp2_with ((with_reducible refine wpl_guard ?_); first | (refine wpl_load_arr rfl 25 _ rfl _ rfl _ _ h58 _ _ uPoly sPoly ?_) | (refine wpl_load_arr rfl 25 _ rfl _ rfl _ _ h59 _ _ uPoly sPoly ?_))
          refine (hS3.out _).mono ?_
          rintro e x18 ⟨rfl, hn⟩
          replace h46 := h46.keep hn
          replace h48 := h48.keep hn
          replace h53 := h53.keep hn
          replace h55 := h55.keep hn
          replace h58 := h58.keep hn
          replace h59 := h59.keep hn
          replace h60 := h60.keep hn
          replace hb := below_step hb hn
          clear hn
          go_upto_region 43 with ((with_reducible refine wpl_guard ?_); first | (refine wpl_new1 25 zPoly sPoly _ _ rfl rfl rfl rfl rfl rfl _ rfl ?_; intro x19 hn h62; replace h46 := h46.keep hn; replace h48 := h48.keep hn; replace h53 := h53.keep hn; replace h55 := h55.keep hn; replace h58 := h58.keep hn; replace h59 := h59.keep hn; replace h60 := h60.keep hn; replace hb := below_step hb hn; clear hn))
          clear h58 h59 hI3 hS3
          have k1 : (c3 == c3) = true := beq_self_eq_true _
          have k2 : (v3 == v3) = true := beq_self_eq_true _
          have k3 : (c4 == c4) = true := beq_self_eq_true _
          have k4 : (c5 == c5) = true := beq_self_eq_true _
          have k5 : (c6 == c6) = true := beq_self_eq_true _
          go_wp2_with ((with_reducible refine wpl_guard ?_); first | (refine wpl_load_arr rfl 25 _ rfl _ rfl _ _ h46 _ _ uPoly sPoly ?_) | (refine wpl_load_arr rfl 25 _ rfl _ rfl _ _ h48 _ _ uPoly sPoly ?_) | (refine wpl_load_arr rfl 25 _ rfl _ rfl _ _ h53 _ _ uPoly sPoly ?_) | (refine wpl_load_arr rfl 25 _ rfl _ rfl _ _ h55 _ _ uPoly sPoly ?_) | (refine wpl_load_arr rfl 25 _ rfl _ rfl _ _ h60 _ _ uPoly sPoly ?_) | (refine wpl_load_arr rfl 25 _ rfl _ rfl _ _ h62 _ _ uPoly sPoly ?_) | (refine wpl_eql_arr rfl 25 _ _ _ rfl 64 .u8 (F4) (F4) 5 rfl rfl uPoly uByte sByte gPoly _ (decide_eq_true fun _ _ => rfl) ?_) | (refine wpl_eql_arr rfl 25 _ _ _ rfl 64 .u8 (F5) (F5) 5 rfl rfl uPoly uByte sByte gPoly _ (decide_eq_true fun _ _ => rfl) ?_) | (refine wpl_eql_arr rfl 25 _ _ _ rfl 64 .u8 (F6) (F6) 5 rfl rfl uPoly uByte sByte gPoly _ (decide_eq_true fun _ _ => rfl) ?_))
          go_ret
          exact ⟨rfl, hb⟩
end Go.Proofs.Ytddgbnkojdmekaa

/- Walks: IsCyclicModule. -/
import Derived.Test.YtnkkkgaojhkniabSqA
set_option linter.unusedVariables false
set_option linter.unusedSimpArgs false
namespace Go.Proofs.Ytnkkkgaojhkniab
open Go.RowKit
set_option maxRecDepth 20000 in
set_option maxHeartbeats 4000000 in
theorem l05Invariants_any (F : Nat → Int) (p n : Int) (N k : Nat) (M : MxL) (w : World) (h : Fac p n F N M) (hkn : k ≤ N) (hk : ∀ i, i < N → ((monic p (M i i)).length ≤ 1 ↔ i < k)) :
    Calls Try.prog 39 #[.int .i64 p, .int .i64 n, .agg (u8s 36 F)] w fun e w' => ∃ v, e = .returned v ∧ BsL 25 64 w' w.heap.size v (N - k) (fun i => monic p (M (k + i) (k + i))) ∧ Below w.heap.size w w' := by
  have hf := Lib.hid h
  have hkH := Lib.hid hk
  have hN0 := h.pos
  have hN6 := h.le
  have hNI : (N : Int) ≤ 6 := by omega
  clear h hk
  obtain ⟨hb, hA⟩ := boxes1 w (u8s 36 F) 30
  go_enter Try.func39, Try.ntmps39
  go_wp2_with ((with_reducible refine wpl_guard ?_); first | (refine wpl_load_arr rfl 30 _ rfl _ rfl _ _ hA _ _ uSquare sSquare ?_))
  refine (hf.out.factors _).mono ?_
  rintro e u2 ⟨g, cc, rfl, hg, hL0, hn⟩
  replace hb := below_step hb hn
  clear hn
  have hgl := (hL0.lt g rfl).2
  have hL := Lib.hid (hL0.mono (Nat.zero_le _))
  have hO0 := BsL.void u2 25 64 (fun i => monic p (M (k + i) (k + i)))
  have hn := below_new u2 (.cells #[] 25)
  have hbs := hb.size
  have hsz := hn.size
  replace hL := Lib.hid (hL.out.below hn)
  replace hb := Lib.hid (below_step hb hn)
  clear hL0 hn hA hg
  go_wp2_with ((with_reducible refine wpl_guard ?_); first | (refine wpl_buildSlice_voidB rfl 38 25 64 rfl uTlnT sPoly zPolyS ?_))
  go_loopw [8, 9] (fun vo vi wr => ∃ j d : Nat, j ≤ N ∧ Hid (d = j - k) ∧ vi = .int .i64 (j : Int) ∧ BsL 25 64 wr u2.heap.size vo d (fun i => monic p (M (k + i) (k + i))) ∧ Hid (BsL 25 64 wr 0 (.slice (some ⟨g, 0, none⟩) N cc) N (fun i => monic p (M i i))) ∧ u2.heap.size ≤ wr.heap.size ∧ Hid (Below w.heap.size w wr)) (fun _ vi _ => N - (intOf vi).toNat)
  case atStart => exact ⟨0, 0, by omega, Lib.hid (by omega), rfl, hO0, hL, hsz, hb⟩
  case round =>
    clear hO0 hL hsz hb
    obtain ⟨j, d, hjN, hd, rfl, hO, hL, hsz, hb⟩ := hrel
    rename World => wr
    by_cases hj : j < N
    · have hjI : (j : Int) < (N : Int) := by omega
      have hcl := Lib.hid (fun q (hq : q < 64) => hL.out.cells (by decide) j hj q hq)
      have hml := hf.out.mlen hj
      have hdeg := Lib.hid (fun w => l01Deg_list p (monic p (M j j)) w ⟨hf.out.pr, hf.out.po j, by omega⟩)
      obtain ⟨L, hLe⟩ : ∃ L, (monic p (M j j)).length = L := ⟨_, rfl⟩
      rw [hLe] at hdeg
      have hLk : L ≤ 1 ↔ j < k := by rw [← hLe]; exact hkH.out j hj
      have hLkH := Lib.hid hLk
      clear hLe hml hLk
      go_wp2_with ((with_reducible refine wpl_guard ?_); first | (refine wpl_index_bs rfl 38 25 64 _ _ rfl uTlnT sPoly (by decide) g N cc j .i64 rfl rfl hj ?_) | (refine wpl_load_bs rfl 25 _ rfl 64 g (j * 64) rfl (cf (monic p (M j j))) hcl.out 5 uPoly sPoly ?_))
      refine (hdeg.out _).mono ?_
      rintro e u3 ⟨rfl, hn⟩
      replace hO := hO.below hn
      replace hL := Lib.hid (hL.out.below hn)
      replace hsz := Nat.le_trans hsz hn.size
      replace hb := Lib.hid (below_step hb.out hn)
      clear hn hcl hdeg
      have hcl := Lib.hid (fun q (hq : q < 64) => hL.out.cells (by decide) j hj q hq)
      by_cases hjk : j < k
      · have hL1 : ¬ ((0 : Int) < (L : Int) - 1) := by have := hLkH.out.2 hjk; omega
        clear hLkH hcl
        go_wp2_with fail
        go_roundw
        case rel => exact ⟨j + 1, d, by omega, Lib.hid (by have := hd.out; omega), by go_num, hO, hL, hsz, hb⟩
        case measure => simp [intOf] <;> omega
      · have hL1 : (0 : Int) < (L : Int) - 1 := by
          have h9 : ¬ L ≤ 1 := fun h => hjk (hLkH.out.1 h)
          omega
        have hjk2 := Lib.hid (by omega : k ≤ j)
        obtain ⟨QT, hQT⟩ : ∃ x, monic p (M j j) = x := ⟨_, rfl⟩
        have hQTd := Lib.hid (by have := hd.out; rw [show k + d = j by omega]; exact hQT : monic p (M (k + d) (k + d)) = QT)
        rw [hQT] at hcl
        have hn := below_new u3 (.cells (u8s 64 (cf QT)) 25)
        have hB3 := Lib.hid (hO.below hn)
        have hD3 := Lib.hid (hL.out.below hn)
        have hb3 := Lib.hid (below_step hb.out hn)
        have nw := Lib.hid (arr_news u3 64 25 QT)
        have hbs3 := Lib.hid (Nat.le_trans hsz hn.size)
        have hd6 : d ≤ 6 := by have := hd.out; omega
        clear hn hO hL hb hsz hLkH hjk hQT
        go_wp2_with ((with_reducible refine wpl_guard ?_); first | (refine wpl_index_bs rfl 38 25 64 _ _ rfl uTlnT sPoly (by decide) g N cc j .i64 rfl rfl hj ?_) | (refine wpl_load_bs rfl 25 _ rfl 64 g (j * 64) rfl (cf QT) hcl.out 5 uPoly sPoly ?_) | (refine wpl_buildSlice_arr rfl 38 25 64 _ rfl uTlnT sPoly zPoly (by decide) (by decide) (cf QT) rfl ?_) | (at_builtin; refine wpl_append_farB rfl _ _ 38 rfl (u2.heap.size) 25 _ 64 64 uTlnT iPolyB (by simp [Value.cells, u8s_size]) (by decide) (by decide) _ d _ rfl hB3.out ⟨u3.heap.size, 0, none⟩ rfl (u8s 64 (cf QT)).toList (by rw [Array.length_toList, u8s_size]) (fun j u h => by rw [addr_add]; exact nw.out j u h) (arr_ones 64 QT) (by omega) hbs3.out ?_))
        intro v5 w5 hown5 hg5 _
        have hB5 := BsL.snoc (M := fun i => monic p (M (k + i) (k + i))) (by decide) hQTd.out hown5
        have hD5 := Lib.hid (hD3.out.kept hg5 (.inr fun e => by have := (hB3.out.lt g e.symm).1; omega))
        have hb5 := Lib.hid (bsl_low hb3.out hB3.out (by omega) (Nat.le_trans (by omega) hbs3.out) hg5)
        have hs5 := Lib.hid (Nat.le_trans hbs3.out hg5.size)
        clear hown5 hg5 hB3 hD3 hb3 nw hbs3 hcl
        go_wp2_with fail
        go_roundw
        case rel => exact ⟨j + 1, d + 1, by omega, Lib.hid (by have := hd.out; have := hjk2.out; omega), by go_num, hB5, hD5, hs5.out, hb5⟩
        case measure => simp [intOf] <;> omega
    · have e : N = j := by omega
      subst e
      have hO2 := Lib.hid (hO.mono (by omega : w.heap.size ≤ u2.heap.size))
      have hdH := Lib.hid hd.out
      clear hO hL
      go_wp2_with fail
      go_ret
      exact ⟨_, rfl, by rw [← hdH.out]; exact hO2.out, hb.out⟩
set_option maxRecDepth 20000 in
set_option maxHeartbeats 4000000 in
theorem specIsCyclicModule_any (F : Nat → Int) (p n : Int) (b z : Bool) (w : World) (hF : By F) (hb : SqOk p n F ↔ b = true) (hz : b = true → ∃ N k M, Fac p n F N M ∧ k ≤ N ∧ (∀ i, i < N → ((monic p (M i i)).length ≤ 1 ↔ i < k)) ∧ (N - k = 1 ↔ z = true)) :
    Calls Try.prog 17 #[.int .i64 p, .int .i64 n, .agg (u8s 36 F)] w fun e w' => e = .returned (.tuple #[.bool (b && z), .int .i64 (onC b)]) ∧ Below w.heap.size w w' := by
  have hFH := Lib.hid hF
  have hbH := Lib.hid hb
  have hzH := Lib.hid hz
  clear hF hb hz
  obtain ⟨hb, hA⟩ := boxes1 w (u8s 36 F) 30
  go_enter Try.func17, Try.ntmps17
  go_wp2_with ((with_reducible refine wpl_guard ?_); first | (refine wpl_load_arr rfl 30 _ rfl _ rfl _ _ hA _ _ uSquare sSquare ?_))
  refine (l05Is_any p n F b _ hFH.out hbH.out).mono ?_
  rintro e u1 ⟨rfl, hn⟩
  replace hA := hA.keep hn
  replace hb := below_step hb hn
  clear hn
  cases b
  · go_wp2_with fail
    go_ret2
    exact ⟨rfl, hb⟩
  obtain ⟨N, k, M, hf', hkn, hk', hz'⟩ := hzH.out (by first | rfl | trivial)
  have hf := Lib.hid hf'
  have hk := Lib.hid hk'
  obtain ⟨L, hLe⟩ : ∃ L, N - k = L := ⟨_, rfl⟩
  have hzL : ((L : Int) == 1) = z := by
    rw [← hLe]
    cases z
    · rw [beq_eq_false_iff_ne]; intro h; have h2 : N - k = 1 := by omega
      exact absurd (hz'.1 h2) (by simp)
    · rw [beq_iff_eq]; have := hz'.2 rfl; omega
  have hLH := Lib.hid hLe
  clear hf' hk' hz' hzH hbH hFH hLe
  go_wp2_with ((with_reducible refine wpl_guard ?_); first | (refine wpl_load_arr rfl 30 _ rfl _ rfl _ _ hA _ _ uSquare sSquare ?_))
  refine (l05Invariants_any F p n N k M _ hf.out hkn hk.out).mono ?_
  rintro e u2 ⟨v, rfl, hv, hn⟩
  replace hA := hA.keep hn
  replace hb := below_step hb hn
  clear hn
  rw [hLH.out] at hv
  obtain ⟨oa, ca, rfl⟩ : ∃ oa ca, v = .slice oa L ca := hv.sl
  clear hv
  go_wp2_with fail
  go_ret2
  exact ⟨by rw [← hzL]; rfl, hb⟩
set_option maxRecDepth 20000 in
set_option maxHeartbeats 4000000 in
theorem implIsCyclicModule_any (F : Nat → Int) (p n : Int) (b z : Bool) (w : World) (hF : By F) (hb : SqOk p n F ↔ b = true) (hz : b = true → ∃ N k M, Fac p n F N M ∧ k ≤ N ∧ (∀ i, i < N → ((monic p (M i i)).length ≤ 1 ↔ i < k)) ∧ (N - k = 1 ↔ z = true)) :
    Calls Try.prog 18 #[.int .i64 p, .int .i64 n, .agg (u8s 36 F)] w fun e w' => e = .returned (.tuple #[.bool (b && z), .int .i64 (onC b)]) ∧ Below w.heap.size w w' := by
  have hFH := Lib.hid hF
  have hbH := Lib.hid hb
  have hzH := Lib.hid hz
  clear hF hb hz
  obtain ⟨hb, hA⟩ := boxes1 w (u8s 36 F) 30
  go_enter Try.func18, Try.ntmps18
  go_wp2_with ((with_reducible refine wpl_guard ?_); first | (refine wpl_load_arr rfl 30 _ rfl _ rfl _ _ hA _ _ uSquare sSquare ?_))
  refine (implIsSquare_any p n F b _ hFH.out hbH.out).mono ?_
  rintro e u1 ⟨rfl, hn⟩
  replace hA := hA.keep hn
  replace hb := below_step hb hn
  clear hn
  cases b
  · go_wp2_with fail
    go_ret2
    exact ⟨rfl, hb⟩
  obtain ⟨N, k, M, hf', hkn, hk', hz'⟩ := hzH.out (by first | rfl | trivial)
  have hf := Lib.hid hf'
  have hk := Lib.hid hk'
  obtain ⟨L, hLe⟩ : ∃ L, N - k = L := ⟨_, rfl⟩
  have hzL : ((L : Int) == 1) = z := by
    rw [← hLe]
    cases z
    · rw [beq_eq_false_iff_ne]; intro h; have h2 : N - k = 1 := by omega
      exact absurd (hz'.1 h2) (by simp)
    · rw [beq_iff_eq]; have := hz'.2 rfl; omega
  have hLH := Lib.hid hLe
  clear hf' hk' hz' hzH hbH hFH hLe
  go_wp2_with ((with_reducible refine wpl_guard ?_); first | (refine wpl_load_arr rfl 30 _ rfl _ rfl _ _ hA _ _ uSquare sSquare ?_))
  refine (hf.out.mat _).mono ?_
  rintro e u2 ⟨v2, rfl, hR, hn⟩
  replace hA := hA.keep hn
  replace hb := below_step hb hn
  clear hn
  go_wp2_with fail
  refine (hf.out.facs hkn hk.out _ _ hR).mono ?_
  rintro e u3 ⟨v, rfl, hv, hn⟩
  replace hA := hA.keep hn
  replace hb := below_step hb hn
  clear hn
  clear hR
  rw [hLH.out] at hv
  obtain ⟨oa, ca, rfl⟩ : ∃ oa ca, v = .slice oa L ca := by obtain ⟨b, c, R, e, _⟩ := hv; exact ⟨_, _, e⟩
  clear hv
  go_wp2_with fail
  go_ret2
  exact ⟨by rw [← hzL]; rfl, hb⟩
theorem IsCyclicModule_pair (p n : Int) (F : Nat → Int) (_ : (Lit.int .i64 p).wf = true) (_ : (Lit.int .i64 n).wf = true) (hF : By F) : ∃ (r0 : Bool) (r1 : Int),
    (∀ w, Calls Try.prog 17 #[.int .i64 p, .int .i64 n, .agg (u8s 36 F)] w fun e w' => e = .returned (.tuple #[.bool r0, .int .i64 r1]) ∧ Below w.heap.size w w') ∧
    (∀ w, Calls Try.prog 18 #[.int .i64 p, .int .i64 n, .agg (u8s 36 F)] w fun e w' => e = .returned (.tuple #[.bool r0, .int .i64 r1]) ∧ Below w.heap.size w w') := by
  obtain ⟨b, hb⟩ := dec_true (SqOk p n F)
  obtain ⟨z, hz⟩ : ∃ z : Bool, b = true → ∃ N k M, Fac p n F N M ∧ k ≤ N ∧ (∀ i, i < N → ((monic p (M i i)).length ≤ 1 ↔ i < k)) ∧ (N - k = 1 ↔ z = true) := by
    cases b
    · exact ⟨false, fun h => by cases h⟩
    · obtain ⟨N, M, h⟩ := fac_ok hF (hb.2 rfl)
      obtain ⟨k, hk, hc⟩ := h.cut
      obtain ⟨z, hz⟩ := dec_true (N - k = 1)
      exact ⟨z, fun _ => ⟨N, k, M, h, hk, hc, hz⟩⟩
  exact ⟨_, _, fun w => specIsCyclicModule_any F p n b z w hF hb hz, fun w => implIsCyclicModule_any F p n b z w hF hb hz⟩
end Go.Proofs.Ytnkkkgaojhkniab

/- Walks: the order of a vector, on the reference's side. -/
import Derived.Test.YtnkkkgaojhkniabI6
import Derived.Test.YtnkkkgaojhkniabSpc
set_option linter.unusedVariables false
set_option linter.unusedSimpArgs false
namespace Go.Proofs.Ytnkkkgaojhkniab
open Go.RowKit
theorem uRowsA : Try.prog.underlying 87 = some (.slice 28) := by kernel_rfl
theorem uPolysA : Try.prog.underlying 38 = some (.slice 25) := by kernel_rfl
theorem iRowA : (Try.prog.info? 28).map (fun i => (i.zero, i.size, i.bytes)) = some (some (.agg (u8s 6 fun _ => 0)), 6, 6) := by kernel_rfl
theorem iPolyA : (Try.prog.info? 25).map (fun i => (i.zero, i.size, i.bytes)) = some (some (.agg (u8s 64 fun _ => 0)), 64, 64) := by kernel_rfl
theorem addp_none {p : Int} {xs : List Int} (hp : 0 < p) (hx : Po p xs) (ys : List Int) (t : Int) (ht : t = 0) : addp p xs ys t = xs := (addp_Po hp _ _ _).ext hx fun i => by
  rw [addp_cf, ht, Int.zero_mul, Int.add_zero]
  exact Int.emod_eq_of_lt (hx.md i).1 (hx.md i).2
/-- A stage of the reference's search. -/
structure KF (p : Int) (x : Nat → List Int) (N k : Nat) (K T : Nat → List Int) : Prop where
  st : Stage p x fstP k K T
  len : ∀ i, i < k → K i ≠ [] ∧ (K i).length ≤ N
theorem KF.le {p : Int} {x : Nat → List Int} {N k : Nat} {K T : Nat → List Int} (h : KF p x N k K T) : k ≤ N := h.st.le fun i hi => by
  have h1 := h.len i hi
  have h2 := (fstP_spec (h.st.po i hi).1 h1.1).1
  omega
theorem KF.zero (p : Int) (x : Nat → List Int) (N : Nat) (K T : Nat → List Int) : KF p x N 0 K T := ⟨Stage.zero _ _ _ _ _, fun _ h => absurd h (by omega)⟩
theorem KF.next {p : Int} (hp : Pr p) {x : Nat → List Int} {N k : Nat} {K T : Nat → List Int} (h : KF p x N k K T) {v o : List Int} (hr : Red p x fstP k K k v o) (hn : v ≠ []) (hl : v.length ≤ N) : KF p x N (k + 1) (insF k v K) (insF k o T) := by
  refine ⟨h.st.next hp hr hn v o 1 hr.pv hr.po (Nat.le_of_eq hr.len) (fstP_spec hr.pv hn).2.1 (Eqp.of_eq (by funext n; exact (Int.one_mul _).symm)) hr.lin hr.zero k (Nat.le_refl k) fun i h3 h4 => absurd h3 (by omega), fun i hi => ?_⟩
  rcases insF_cases v K (Nat.le_refl k) hi with ⟨e1, e2⟩ | ⟨q, hq, e1, e2⟩
  · rw [e1]; exact ⟨hn, hl⟩
  · rw [e1]; exact h.len q hq
theorem onek_set (k : Nat) : u8s 64 (fun j => if j = k then 1 else (fun _ => (0 : Int)) j) = u8s 64 (cf (onek k)) := u8s_ext fun j _ => by rw [onek_cf]
theorem nzR_dec {p : Int} {xs : List Int} (hx : R6 p xs) (h : xs ≠ []) {inst : Decidable (∀ i, i < 6 → cf xs i = cf [] i)} : @decide (∀ i, i < 6 → cf xs i = cf [] i) inst = false := decide_eq_false fun e => by
  have h1 := hx.po.lead h
  have h2 := List.length_pos_iff.2 h
  have h3 := hx.le
  rw [e _ (by omega), cf_nil] at h1; omega
theorem zR_dec {xs : List Int} (h : xs = []) {inst : Decidable (∀ i, i < 6 → cf xs i = cf [] i)} : @decide (∀ i, i < 6 → cf xs i = cf [] i) inst = true := decide_eq_true fun i _ => by rw [h]
set_option maxRecDepth 20000 in
set_option maxHeartbeats 8000000 in
theorem l05Order_any (p : Int) (n : Nat) (F : Nat → Int) (M : Nat → List Int) (xs : List Int) (kr : Nat) (c : List Int) (w : World) (hM : Mx p n F M) (hx : R6 p xs) (hxn : xs.length ≤ n)
    (hc : Rel p (fun j => cf (lpw p M xs j)) kr c) (hmin : ∀ j, j < kr → ¬ ∃ e, Rel p (fun j => cf (lpw p M xs j)) j e) :
    Calls Try.prog 43 #[.int .i64 p, .int .i64 n, .agg (u8s 36 F), .agg (u8s 6 (cf xs))] w fun e w' => e = .returned (.agg (u8s 64 (cf c))) ∧ Below w.heap.size w w' := by
  have hp2 := hM.pr.pos
  have hn6 := hM.n6
  have hpH := Lib.hid hM.pr
  have hxP := Lib.hid (lpw_Po (M := M) hp2.1 hx.po)
  have hxL := Lib.hid (lpw_len (p := p) hM.le hxn)
  have hled := Lib.hid (fun k w => l05Led_any p n F M (lpw p M xs k) w hM ⟨hM.pr, lpw_Po hp2.1 hx.po k, by have := lpw_len (p := p) hM.le hxn k; omega⟩ (lpw_len hM.le hxn k))
  have hcH := Lib.hid hc
  have hminH := Lib.hid hmin
  obtain ⟨hb, hA, hV, hZ⟩ := boxes3 w (u8s 36 F) (u8s 6 (cf xs)) (u8s 64 fun _ => 0) 30 28 25
  obtain ⟨x, hxe⟩ : ∃ x, lpw p M xs = x := ⟨_, rfl⟩
  have hx0 : xs = x 0 := by rw [← hxe]; rfl
  have hledE : ∀ k, led p M (lpw p M xs k) = x (k + 1) := fun k => by rw [← hxe]; rfl
  simp only [hledE] at hled
  rw [hxe] at hxP hxL hled hcH hminH
  have hV := hV.cast (cs' := u8s 6 (cf (x 0))) (by rw [← hx0])
  obtain ⟨w9, hw9⟩ : ∃ w9, ((w.alloc (.cells (u8s 36 F) 30)).alloc (.cells (u8s 6 (cf xs)) 28)).alloc (.cells (u8s 64 fun _ => 0) 25) = w9 := ⟨_, rfl⟩
  have hs9 : w9.heap.size = w.heap.size + 1 + 1 + 1 := by rw [← hw9]; simp
  rw [hw9] at hb hA hV hZ
  have hR0 := Lib.hid (((BsL.void w9 28 6 (fun _ => [])).mono (B' := w.heap.size + 3) (by omega)).below (below_new _ (.cells #[] 25)))
  have hT0 := Lib.hid ((BsL.void (w9.alloc (.cells #[] 28)) 25 64 (fun _ => [])).mono (B' := w.heap.size + 3) (by simp; omega))
  rw [hs9] at hR0
  rw [size_alloc, hs9] at hT0
  have hn9 : Below w9.heap.size w9 ((w9.alloc (.cells #[] 28)).alloc (.cells #[] 25)) := (below_new w9 _).alloc (by simp) _
  replace hA := hA.keep hn9
  replace hV := hV.keep hn9
  replace hZ := hZ.keep hn9
  replace hb := below_step hb hn9
  have hne0 : w9.heap.size ≠ w9.heap.size + 1 := by omega
  clear hM hx hxn hc hmin hxe hx0 hledE hn9
  go_enter Try.func43, Try.ntmps43
  go_wp2_with ((with_reducible refine wpl_guard ?_); first | (refine wpl_alloc_arr rfl 25 rfl _ zPoly ?_) | (refine wpl_buildSlice_voidB rfl 87 28 6 rfl uRowsA sRow (by rw [zRow]; rfl) ?_) | (refine wpl_buildSlice_voidB rfl 38 25 64 rfl uPolysA sPoly (by rw [zPoly]; rfl) ?_))
  go_loopw [9, 10, 11] (fun vR vT kv wr => ∃ (k : Nat) (Kf Tf : Nat → List Int), kv = .int .i64 (k : Int) ∧ Hid (KF p x n k Kf Tf) ∧ Hid (BsL 28 6 wr (w.heap.size + 3) vR k Kf) ∧ Hid (BsL 25 64 wr (w.heap.size + 3) vT k Tf) ∧ Hid (vR.ownBlock ≠ vT.ownBlock) ∧ Blk wr w.heap.size (u8s 36 F) 30 ∧ Blk wr (w.heap.size + 1) (u8s 6 (cf (x k))) 28 ∧ Blk wr (w.heap.size + 1 + 1) (u8s 64 fun _ => 0) 25 ∧ Below w.heap.size w wr) (fun _ _ kv _ => n - (intOf kv).toNat)
  case atStart => exact ⟨0, fun _ => [], fun _ => [], rfl, Lib.hid (KF.zero _ _ _ _ _), hR0, hT0, Lib.hid (fun e => by simp [Value.ownBlock] at e), hA, hV, hZ, hb⟩
  case round =>
    clear hR0 hT0 hA hV hZ hb hw9 hs9 hne0 w9
    rename World => w0
    obtain ⟨k, Kf, Tf, rfl, hS, hR, hT, hap, hA, hV, hZ, hb⟩ := hrel
    obtain ⟨oR, cR, rfl⟩ := hR.out.sl
    obtain ⟨oT, cT, rfl⟩ := hT.out.sl
    have hkn := hS.out.le
    have hred := Lib.hid (hS.out.st.red hpH.out (hxP.out k) k (Nat.le_refl k))
    have hrle := Lib.hid (fun i (hi : i ≤ k) => red_len (p := p) (T := Tf) (o := onek k) (fun i (hi : i < k) => (hS.out.len i hi).2) (hxL.out k) fstP i hi)
    have hredP := Lib.hid (fun i (hi : i ≤ k) => hS.out.st.red hpH.out (hxP.out k) i hi)
    obtain ⟨rv, hrv⟩ : ∃ f, f = fun i => (redN p fstP Kf Tf (x k) (onek k) i).1 := ⟨_, rfl⟩
    obtain ⟨ro, hro⟩ : ∃ f, f = fun i => (redN p fstP Kf Tf (x k) (onek k) i).2 := ⟨_, rfl⟩
    have hst1 := Lib.hid (fun i => (by rw [hrv]; rfl : rv (i + 1) = addp p (rv i) (Kf i) (-(cf (rv i) (fstP (Kf i))) * invp p (cf (Kf i) (fstP (Kf i))))))
    have hst2 := Lib.hid (fun i => (by rw [hrv, hro]; rfl : ro (i + 1) = addp p (ro i) (Tf i) (-(cf (rv i) (fstP (Kf i))) * invp p (cf (Kf i) (fstP (Kf i))))))
    have hrv0 := Lib.hid (by rw [hrv]; rfl : rv 0 = x k)
    have hro0 := Lib.hid (by rw [hro]; rfl : ro 0 = onek k)
    rw [show (redN p fstP Kf Tf (x k) (onek k) k).1 = rv k by rw [hrv], show (redN p fstP Kf Tf (x k) (onek k) k).2 = ro k by rw [hro]] at hred
    have hrle2 := Lib.hid (fun i (hi : i ≤ k) => (by rw [hrv]; exact hrle.out i hi : (rv i).length ≤ n))
    have hrP2 := Lib.hid (fun i (hi : i ≤ k) => (by rw [hrv, hro]; exact hredP.out i hi : Red p x fstP k Kf i (rv i) (ro i)))
    clear hrv hro hrle hredP
    have hszW : w.heap.size + 1 + 1 < w0.heap.size := hZ.lt
    have hsb : w.heap.size ≤ w0.heap.size := by omega
    have hO0 := (Blk.new w0 (u8s 6 fun _ => 0) 28).alloc (.cells (u8s 64 fun _ => 0) 25)
    have hS0 := Blk.newAt (w := w0.alloc (.cells (u8s 6 fun _ => 0) 28)) (n := w0.heap.size + 1) (by simp) (u8s 64 fun _ => 0) 25
    have hO1 := hO0.setRow_same (cs := u8s 6 (cf (x k)))
    have hS1 := hS0.setRow_other (g := w0.heap.size) (cs := u8s 6 (cf (x k))) (by omega)
    have hO2 := hO1.setRow_other (g := w0.heap.size + 1) (cs := u8s 64 fun _ => 0) (by omega)
    have hS2 := hS1.setRow_same (cs := u8s 64 fun _ => 0)
    have hz0 : Below w0.heap.size w0 ((((w0.alloc (.cells (u8s 6 fun _ => 0) 28)).alloc (.cells (u8s 64 fun _ => 0) 25)).setRow w0.heap.size (u8s 6 (cf (x k)))).setRow (w0.heap.size + 1) (u8s 64 fun _ => 0)) :=
      below_setRow (below_setRow ((below_new w0 _).alloc (by simp) _) (Nat.le_refl _) _) (by omega) _
    go_upto_region 5 with ((with_reducible refine wpl_guard ?_); first | (refine wpl_load_arr rfl 28 _ rfl _ rfl _ _ hV _ _ uRow sRow ?_) | (refine wpl_build_zero rfl 25 64 5 rfl _ uPoly sByte zPoly ?_) | (refine wpl_alloc_arr rfl 28 rfl _ zRow ?_) | (refine wpl_alloc_arr rfl 25 rfl _ zPoly ?_) | (refine wpl_store_arr rfl 28 _ _ rfl _ rfl (u8s 6 (cf (x k))) rfl _ _ hO0 sRow (by simp only [u8s_size]) (u8s_oneCell _ _) ?_) | (refine wpl_store_arr rfl 25 _ _ rfl _ rfl (u8s 64 fun _ => 0) rfl (u8s 64 fun _ => 0) 25 (by rw [size_alloc]; exact hS1) sPoly (by simp only [u8s_size]) (u8s_oneCell _ _) ?_))
    simp only [Act.put, List.setIfInBounds_toArray, List.set_cons_zero, List.set_cons_succ, size_alloc]
    generalize World.setRow (World.setRow _ w0.heap.size (u8s 6 (cf (x k)))) (w0.heap.size + 1) (u8s 64 fun _ => 0) = y0 at *
    have hO3 := hO2.setRow_other (g := w0.heap.size + 1) (cs := u8s 64 (fun j => if j = k then 1 else (fun _ => (0 : Int)) j)) (by omega)
    have hS3 := (hS2.setRow_same (cs := u8s 64 (fun j => if j = k then 1 else (fun _ => (0 : Int)) j))).cast (onek_set k)
    have hz3 := below_setRow hz0 (g := w0.heap.size + 1) (by omega) (u8s 64 (fun j => if j = k then 1 else (fun _ => (0 : Int)) j))
    have hk64 : (k : Int) < 64 := by omega
    clear hO0 hS0 hO1 hS1 hO2
    go_wp2_with ((with_reducible refine wpl_guard ?_); first | (refine wpl_store_u8 rfl 5 _ _ rfl (w0.heap.size + 1) k rfl 1 rfl 64 _ _ hS2 (by omega) sByte ?_))
    clear hS2 hz0
    generalize World.setRow y0 (w0.heap.size + 1) _ = y1 at *
    obtain ⟨gO, hgOe⟩ : ∃ g, w0.heap.size = g := ⟨_, rfl⟩
    obtain ⟨gS, hgSe⟩ : ∃ g, w0.heap.size + 1 = g := ⟨_, rfl⟩
    have hgO : w0.heap.size ≤ gO := by omega
    have hgS : w0.heap.size ≤ gS := by omega
    have hSO : gS ≠ gO := by omega
    rw [hgSe] at hS3 ⊢
    rw [hgOe] at hO3 ⊢
    clear hgOe hgSe
    go_loopw [14] (fun iv wr => ∃ ix : Nat, ix ≤ k ∧ iv = .int .i64 (ix : Int) ∧ Blk wr gO (u8s 6 (cf (rv ix))) 28 ∧ Blk wr gS (u8s 64 (cf (ro ix))) 25 ∧ Below w0.heap.size w0 wr) (fun iv _ => k - (intOf iv).toNat)
    case atStart => exact ⟨0, by omega, rfl, by rw [hrv0.out]; exact hO3, by rw [hro0.out]; exact hS3, hz3⟩
    case round =>
      clear hO3 hS3 hz3
      rename World => wq
      obtain ⟨ix, hix, rfl, hW, hU, hz⟩ := hrel
      by_cases hlt : ix < k
      · skip
        obtain ⟨gR, rfl, _⟩ := hR.out.slc (by omega)
        obtain ⟨gT, rfl, _⟩ := hT.out.slc (by omega)
        have hKp := (hS.out.st.po ix hlt)
        have hKn := (hS.out.len ix hlt)
        have hfp := fstP_spec hKp.1 hKn.1
        obtain ⟨q, hq⟩ : ∃ q, fstP (Kf ix) = q := ⟨_, rfl⟩
        have hq6 : q < 6 := by have := hKn.2; have := hfp.1; omega
        have hfi := Lib.hid (fun w => by have := l05First_any (Kf ix) p w ⟨hpH.out, hKp.1, by have := hKn.2; omega⟩ hKn.1; rw [hq] at this; exact this)
        have hRi := hrP2.out ix hix
        obtain ⟨A, hA⟩ : ∃ A, cf (rv ix) q = A := ⟨_, rfl⟩
        obtain ⟨Bv, hBv⟩ : ∃ Bv, cf (Kf ix) q = Bv := ⟨_, rfl⟩
        obtain ⟨Iv, hIv⟩ : ∃ Iv, invp p Bv = Iv := ⟨_, rfl⟩
        have hA0 : 0 ≤ A := hA ▸ (hRi.pv.md _).1
        have hA6 : A ≤ 6 := by have := (hRi.pv.md q).2; omega
        have hB0 : 0 < Bv := by
          have h1 := (hKp.1.md q).1
          have h2 := hfp.2.1
          rw [hq, hBv] at h2
          omega
        have hBp : Bv < p := hBv ▸ (hKp.1.md _).2
        have hI := invp_spec hpH.out hB0 hBp
        rw [hIv] at hI
        have hI0 : 0 < Iv := hI.1
        have hI6 : Iv ≤ 6 := by have := hI.2.1; omega
        have hAI : 0 ≤ A * Iv := Int.mul_nonneg hA0 (by omega)
        have hAI2 : A * Iv ≤ 36 := Int.le_trans (Int.mul_le_mul hA6 hI6 (by omega) (by omega)) (by decide)
        obtain ⟨Fi, hFi⟩ : ∃ Fi, -A * Iv = Fi := ⟨_, rfl⟩
        have hFe : Fi = -(A * Iv) := by rw [← hFi, Int.neg_mul]
        have hF0 : -36 ≤ Fi := by omega
        have hF1 : Fi ≤ 0 := by omega
        have hs1 := hst1.out ix
        have hs2 := hst2.out ix
        rw [hq, hA, hBv, hIv, hFi] at hs1 hs2
        have hR6v : R6 p (rv ix) := ⟨hpH.out, hRi.pv, by have := hrle2.out ix hix; omega⟩
        have hR6k : R6 p (Kf ix) := ⟨hpH.out, hKp.1, by have := hKn.2; omega⟩
        have hP6o : P64 p (ro ix) := ⟨hpH.out, hRi.po, by have := hRi.len; omega⟩
        have hP6t : P64 p (Tf ix) := ⟨hpH.out, hKp.2.1, by have := hKp.2.2.1; omega⟩
        have hcV := Lib.hid (fun w => (by have := l05Add_list (rv ix) (Kf ix) p Fi w hR6v hR6k (by omega) (by omega); rw [← hs1] at this; exact this : Calls Try.prog 77 #[.int .i64 p, .agg (u8s 6 (cf (rv ix))), .agg (u8s 6 (cf (Kf ix))), .int .i64 Fi] w fun e w' => e = .returned (.agg (u8s 6 (cf (rv (ix + 1))))) ∧ Below w.heap.size w w'))
        have hcO := Lib.hid (fun w => (by have := l01Add_list (ro ix) (Tf ix) p Fi w hP6o hP6t (by omega) (by omega); rw [← hs2] at this; exact this : Calls Try.prog 78 #[.int .i64 p, .agg (u8s 64 (cf (ro ix))), .agg (u8s 64 (cf (Tf ix))), .int .i64 Fi] w fun e w' => e = .returned (.agg (u8s 64 (cf (ro (ix + 1))))) ∧ Below w.heap.size w w'))
        have hin := Lib.hid (fun w => by have := l01Inverse_any p Bv w hpH.out hB0 hBp; rw [hIv] at this; exact this)
        have hAq := Lib.hid hA
        have hBq := Lib.hid hBv
        have hsk := Lib.hid (fun (h : A = 0) => (⟨by rw [hs1, ← hFi, h]; exact addp_none (by omega) hRi.pv _ _ (by simp), by rw [hs2, ← hFi, h]; exact addp_none (by omega) hRi.po _ _ (by simp)⟩ : rv (ix + 1) = rv ix ∧ ro (ix + 1) = ro ix))
        have hcR := Lib.hid ((hR.out.below hz).cells (by decide) ix hlt)
        clear hs1 hs2 hFe hI hKp hKn hRi hA hBv hIv hfp hq hR6v hR6k hP6o hP6t hAI hAI2
        go_wp2_with ((with_reducible refine wpl_guard ?_); first | (refine wpl_load_mid rfl 28 _ rfl gR (ix * 6) rfl 6 _ _ hcR.out uRow sRow ?_))
        refine (hfi.out _).mono ?_
        rintro e y1 ⟨rfl, hn⟩
        replace hW := hW.keep hn
        replace hU := hU.keep hn
        replace hz := below_step hz hn
        clear hn hcR
        have c0 : y1.cell? ⟨gO, q, none⟩ = some (.int .u8 A) := by rw [hW.cell, u8s_get _ hq6, hAq.out]
        have hq6I : (q : Int) < 6 := by omega
        by_cases hAz : A = 0
        · have hz0 : (A == 0) = true := beq_iff_eq.2 hAz
          have hz1 : (A != 0) = false := by rw [hAz]; rfl
          obtain ⟨hk1, hk2⟩ := hsk.out hAz
          have hW2 := hW.cast (cs' := u8s 6 (cf (rv (ix + 1)))) (by rw [hk1])
          have hU2 := hU.cast (cs' := u8s 64 (cf (ro (ix + 1)))) (by rw [hk2])
          clear hk1 hk2 hW hU hAz
          go_wp2_with fail
          go_roundw
          case rel => exact ⟨ix + 1, by omega, by go_num, hW2, hU2, hz⟩
          case measure => simp [intOf] <;> omega
        · have hz1 : (A != 0) = true := by rw [bne_iff_ne]; exact hAz
          clear hAz
          go_upto_region 11 with (fail)
          go_upto_region 11 with (fail)
          refine gen_guard (w := _) (by kernel_rfl) (by kernel_rfl) (by kernel_rfl)
              (fun i => ([fun zv _ => zv = .int .i64 ((q : Nat) : Int), fun zv _ => zv = .pointer (some ⟨gO, q, none⟩), fun zv _ => zv = .int .u8 A, fun zv _ => zv = .int .i64 A, fun zv _ => zv = .int .i64 (-A), fun zv _ => zv = .int .i64 p, fun zv _ => zv = .slice (some ⟨gR, 0, none⟩) k cR, fun zv _ => zv = .int .i64 ((ix : Nat) : Int), fun zv _ => zv = .int .i64 ((q : Nat) : Int), fun zv _ => zv = .pointer (some ⟨gR, ix * 6, none⟩), fun zv _ => zv = .pointer (some ⟨gR, ix * 6 + q, none⟩), fun zv _ => zv = .int .u8 Bv, fun zv _ => zv = .int .u8 Iv, fun zv _ => zv = .int .i64 Iv, fun zv _ => zv = .int .i64 Fi, fun zv _ => zv = .int .i64 Fi] : List (Value → World → Prop)).getD i (fun _ _ => True))
              (fun w' => True) trivial (fun w1 w2 h hb => trivial) ?_ ?_ ?_
          · intro i v w1 w2 h hb
            rcases i with _|_|_|_|_|_|_|_|_|_|_|_|_|_|_|_|i
            · exact h
            · exact h
            · exact h
            · exact h
            · exact h
            · exact h
            · exact h
            · exact h
            · exact h
            · exact h
            · exact h
            · exact h
            · exact h
            · exact h
            · exact h
            · exact h
            · exact h
          · intro i o ho a w2 hBl hSx hrd hpar
            rcases i with _|_|_|_|_|_|_|_|_|_|_|_|_|_|_|_|i
            · obtain rfl := Option.some.inj ho
              refine .inl ⟨rfl, ?_⟩
              have e15 : a.eval (.tmp 15) = .int .i64 ((q : Nat) : Int) := hpar 15 _ (by kernel_rfl) (by kernel_rfl)
              exact wpv_of (wp_move _ _ rfl e15) (fun _ _ => rfl)
            · obtain rfl := Option.some.inj ho
              refine .inl ⟨rfl, ?_⟩
              have e40 : a.eval (.tmp 40) = .int .i64 ((q : Nat) : Int) := hrd 0 _ 40 rfl rfl (by kernel_rfl) (by kernel_rfl)
              exact wpv_of (wp_index_arr 28 5 6 _ _ rfl uRow sByte gO q .i64 (hpar 12 (.pointer (some ⟨gO, 0, none⟩)) (by kernel_rfl) (by kernel_rfl)) e40 hq6) (fun _ _ => rfl)
            · obtain rfl := Option.some.inj ho
              refine .inl ⟨rfl, ?_⟩
              have e41 : a.eval (.tmp 41) = .pointer (some ⟨gO, q, none⟩) := hrd 1 _ 41 rfl rfl (by kernel_rfl) (by kernel_rfl)
              exact wpv_of (wp_load_cell 5 _ rfl _ e41 .u8 uByte _ (by rw [(hW.keep hBl).cell, u8s_get _ hq6, hAq.out])) (fun _ _ => rfl)
            · obtain rfl := Option.some.inj ho
              refine .inl ⟨rfl, ?_⟩
              have e42 : a.eval (.tmp 42) = .int .u8 A := hrd 2 _ 42 rfl rfl (by kernel_rfl) (by kernel_rfl)
              exact wpv_of (wp_conv_u8 5 2 _ rfl _ e42 hA0 (by omega) uByte uInt) (fun _ _ => rfl)
            · obtain rfl := Option.some.inj ho
              refine .inl ⟨rfl, ?_⟩
              have e43 : a.eval (.tmp 43) = .int .i64 A := hrd 3 _ 43 rfl rfl (by kernel_rfl) (by kernel_rfl)
              exact wpv_of (wp_negI _ _ rfl A e43 hA0 (by omega)) (fun _ _ => rfl)
            · obtain rfl := Option.some.inj ho
              refine .inl ⟨rfl, ?_⟩
              have e0 : a.eval (.tmp 0) = .int .i64 p := hpar 0 _ (by kernel_rfl) (by kernel_rfl)
              exact wpv_of (wp_move _ _ rfl e0) (fun _ _ => rfl)
            · obtain rfl := Option.some.inj ho
              refine .inl ⟨rfl, ?_⟩
              have e9 : a.eval (.tmp 9) = .slice (some ⟨gR, 0, none⟩) k cR := hpar 9 _ (by kernel_rfl) (by kernel_rfl)
              exact wpv_of (wp_move _ _ rfl e9) (fun _ _ => rfl)
            · obtain rfl := Option.some.inj ho
              refine .inl ⟨rfl, ?_⟩
              have e14 : a.eval (.tmp 14) = .int .i64 ((ix : Nat) : Int) := hpar 14 _ (by kernel_rfl) (by kernel_rfl)
              exact wpv_of (wp_move _ _ rfl e14) (fun _ _ => rfl)
            · obtain rfl := Option.some.inj ho
              refine .inl ⟨rfl, ?_⟩
              have e15 : a.eval (.tmp 15) = .int .i64 ((q : Nat) : Int) := hpar 15 _ (by kernel_rfl) (by kernel_rfl)
              exact wpv_of (wp_move _ _ rfl e15) (fun _ _ => rfl)
            · obtain rfl := Option.some.inj ho
              refine .inl ⟨rfl, ?_⟩
              have e46 : a.eval (.tmp 46) = .slice (some ⟨gR, 0, none⟩) k cR := hrd 6 _ 46 rfl rfl (by kernel_rfl) (by kernel_rfl)
              have e47 : a.eval (.tmp 47) = .int .i64 ((ix : Nat) : Int) := hrd 7 _ 47 rfl rfl (by kernel_rfl) (by kernel_rfl)
              exact wpv_of (wp_index_bs 87 28 6 _ _ rfl uRowsA sRow (by decide) gR k cR ix .i64 e46 e47 hlt) (fun _ _ => rfl)
            · obtain rfl := Option.some.inj ho
              refine .inl ⟨rfl, ?_⟩
              have e49 : a.eval (.tmp 49) = .pointer (some ⟨gR, ix * 6, none⟩) := hrd 9 _ 49 rfl rfl (by kernel_rfl) (by kernel_rfl)
              have e48 : a.eval (.tmp 48) = .int .i64 ((q : Nat) : Int) := hrd 8 _ 48 rfl rfl (by kernel_rfl) (by kernel_rfl)
              exact wpv_of (wp_index_at 28 5 6 _ _ rfl uRow sByte gR (ix * 6) q .i64 e49 e48 hq6) (fun _ _ => rfl)
            · obtain rfl := Option.some.inj ho
              refine .inl ⟨rfl, ?_⟩
              have e50 : a.eval (.tmp 50) = .pointer (some ⟨gR, ix * 6 + q, none⟩) := hrd 10 _ 50 rfl rfl (by kernel_rfl) (by kernel_rfl)
              exact wpv_of (wp_load_cell 5 _ rfl _ e50 .u8 uByte _ (by have := ((hR.out.below hz).below hBl).cells (by decide) ix hlt q hq6; rw [hBq.out] at this; exact this)) (fun _ _ => rfl)
            · obtain rfl := Option.some.inj ho
              refine .inl ⟨rfl, ?_⟩
              have e45 : a.eval (.tmp 45) = .int .i64 p := hrd 5 _ 45 rfl rfl (by kernel_rfl) (by kernel_rfl)
              have e51 : a.eval (.tmp 51) = .int .u8 Bv := hrd 11 _ 51 rfl rfl (by kernel_rfl) (by kernel_rfl)
              exact wpv_call 76 [.tmp 45, .tmp 51] _ rfl [.int .i64 p, .int .u8 Bv] (by simp only [List.map_cons, List.map_nil, e45, e51]) Try.call76 ((hin.out w2).mono fun _ _ h => ⟨_, h.1, rfl, h.2 ▸ Below.refl _ _⟩)
            · obtain rfl := Option.some.inj ho
              refine .inl ⟨rfl, ?_⟩
              have e52 : a.eval (.tmp 52) = .int .u8 Iv := hrd 12 _ 52 rfl rfl (by kernel_rfl) (by kernel_rfl)
              exact wpv_of (wp_conv_u8 5 2 _ rfl _ e52 (by omega) (by omega) uByte uInt) (fun _ _ => rfl)
            · obtain rfl := Option.some.inj ho
              refine .inl ⟨rfl, ?_⟩
              have e44 : a.eval (.tmp 44) = .int .i64 (-A) := hrd 4 _ 44 rfl rfl (by kernel_rfl) (by kernel_rfl)
              have e53 : a.eval (.tmp 53) = .int .i64 Iv := hrd 13 _ 53 rfl rfl (by kernel_rfl) (by kernel_rfl)
              exact wpv_of (wp_mulI _ _ _ _ rfl (-A) Iv Fi e44 e53 hFi (by omega) (by omega)) (fun _ _ => rfl)
            · obtain rfl := Option.some.inj ho
              refine .inl ⟨rfl, ?_⟩
              have e54 : a.eval (.tmp 54) = .int .i64 Fi := hrd 14 _ 54 rfl rfl (by kernel_rfl) (by kernel_rfl)
              exact wpv_of (wp_assign _ _ rfl e54) (fun _ _ => rfl)
            · simp at ho
          intro vals xD hBx hSx hc0
          have e0 : vals 0 = .int .i64 ((q : Nat) : Int) := hc0 0 (by simp)
          have e1 : vals 1 = .pointer (some ⟨gO, q, none⟩) := hc0 1 (by simp)
          have e2 : vals 2 = .int .u8 A := hc0 2 (by simp)
          have e3 : vals 3 = .int .i64 A := hc0 3 (by simp)
          have e4 : vals 4 = .int .i64 (-A) := hc0 4 (by simp)
          have e5 : vals 5 = .int .i64 p := hc0 5 (by simp)
          have e6 : vals 6 = .slice (some ⟨gR, 0, none⟩) k cR := hc0 6 (by simp)
          have e7 : vals 7 = .int .i64 ((ix : Nat) : Int) := hc0 7 (by simp)
          have e8 : vals 8 = .int .i64 ((q : Nat) : Int) := hc0 8 (by simp)
          have e9 : vals 9 = .pointer (some ⟨gR, ix * 6, none⟩) := hc0 9 (by simp)
          have e10 : vals 10 = .pointer (some ⟨gR, ix * 6 + q, none⟩) := hc0 10 (by simp)
          have e11 : vals 11 = .int .u8 Bv := hc0 11 (by simp)
          have e12 : vals 12 = .int .u8 Iv := hc0 12 (by simp)
          have e13 : vals 13 = .int .i64 Iv := hc0 13 (by simp)
          have e14 : vals 14 = .int .i64 Fi := hc0 14 (by simp)
          have e15 : vals 15 = .int .i64 Fi := hc0 15 (by simp)
          simp only [List.length_cons, List.length_nil, Nat.zero_add, Nat.reduceAdd, List.replicate, putAll, if_true, Act.put, List.setIfInBounds_toArray, List.set_cons_zero, List.set_cons_succ, e0, e1, e2, e3, e4, e5, e6, e7, e8, e9, e10, e11, e12, e13, e14, e15]
          replace hW := hW.keep hBx
          replace hU := hU.keep hBx
          replace hz := below_step hz hBx
          clear hc0 hSx e0 e1 e2 e3 e4 e5 e6 e7 e8 e9 e10 e11 e12 e13 e14 e15
          clear hBx
          go_upto_region 12 with (fail)
          go_upto_region 12 with (fail)
          refine gen_last (w := _) (by kernel_rfl) (by kernel_rfl) (by kernel_rfl) 8 (by kernel_rfl)
              (fun i => ([fun zv _ => zv = .int .i64 p, fun zv _ => zv = .agg (u8s 6 (cf (rv ix))), fun zv _ => zv = .slice (some ⟨gR, 0, none⟩) k cR, fun zv _ => zv = .int .i64 ((ix : Nat) : Int), fun zv _ => zv = .pointer (some ⟨gR, ix * 6, none⟩), fun zv _ => zv = .agg (u8s 6 (cf (Kf ix))), fun zv _ => zv = .int .i64 Fi, fun zv _ => zv = .agg (u8s 6 (cf (rv (ix + 1)))), fun _ _ => True] : List (Value → World → Prop)).getD i (fun _ _ => True))
              (fun w' => Blk w' (gO) (u8s 6 (cf (rv ix))) 28 ∧ True) ⟨hW.drew, trivial⟩ (fun w1 w2 h hb => ⟨h.1.keep hb, trivial⟩) ?_ ?_ ?_
          · intro i v w1 w2 h hb
            rcases i with _|_|_|_|_|_|_|_|_|i
            · exact h
            · exact h
            · exact h
            · exact h
            · exact h
            · exact h
            · exact h
            · exact h
            · exact h
            · exact h
          · intro i o ho hiZ a w2 hBl hSx hrd hpar
            rcases i with _|_|_|_|_|_|_|_|_|i
            · obtain rfl := Option.some.inj ho
              refine .inl ⟨rfl, ?_⟩
              have e0 : a.eval (.tmp 0) = .int .i64 p := hpar 0 _ (by kernel_rfl) (by kernel_rfl)
              exact wpv_of (wp_move _ _ rfl e0) (fun _ _ => rfl)
            · obtain rfl := Option.some.inj ho
              refine .inl ⟨rfl, ?_⟩
              exact wpv_of (wp_loadB 28 _ rfl _ (hpar 12 (.pointer (some ⟨gO, 0, none⟩)) (by kernel_rfl) (by kernel_rfl)) _ _ hSx.1 _ _ uRow sRow) (fun _ _ => rfl)
            · obtain rfl := Option.some.inj ho
              refine .inl ⟨rfl, ?_⟩
              have e9 : a.eval (.tmp 9) = .slice (some ⟨gR, 0, none⟩) k cR := hpar 9 _ (by kernel_rfl) (by kernel_rfl)
              exact wpv_of (wp_move _ _ rfl e9) (fun _ _ => rfl)
            · obtain rfl := Option.some.inj ho
              refine .inl ⟨rfl, ?_⟩
              have e14 : a.eval (.tmp 14) = .int .i64 ((ix : Nat) : Int) := hpar 14 _ (by kernel_rfl) (by kernel_rfl)
              exact wpv_of (wp_move _ _ rfl e14) (fun _ _ => rfl)
            · obtain rfl := Option.some.inj ho
              refine .inl ⟨rfl, ?_⟩
              have e57 : a.eval (.tmp 57) = .slice (some ⟨gR, 0, none⟩) k cR := hrd 2 _ 57 rfl rfl (by kernel_rfl) (by kernel_rfl)
              have e58 : a.eval (.tmp 58) = .int .i64 ((ix : Nat) : Int) := hrd 3 _ 58 rfl rfl (by kernel_rfl) (by kernel_rfl)
              exact wpv_of (wp_index_bs 87 28 6 _ _ rfl uRowsA sRow (by decide) gR k cR ix .i64 e57 e58 hlt) (fun _ _ => rfl)
            · obtain rfl := Option.some.inj ho
              refine .inl ⟨rfl, ?_⟩
              have e59 : a.eval (.tmp 59) = .pointer (some ⟨gR, ix * 6, none⟩) := hrd 4 _ 59 rfl rfl (by kernel_rfl) (by kernel_rfl)
              exact wpv_of (wp_load_bs 28 _ rfl 6 gR (ix * 6) e59 _ (((hR.out.below hz).below hBl).cells (by decide) ix hlt) _ uRow sRow) (fun _ _ => rfl)
            · obtain rfl := Option.some.inj ho
              refine .inl ⟨rfl, ?_⟩
              have e16 : a.eval (.tmp 16) = .int .i64 Fi := hpar 16 _ (by kernel_rfl) (by kernel_rfl)
              exact wpv_of (wp_move _ _ rfl e16) (fun _ _ => rfl)
            · obtain rfl := Option.some.inj ho
              refine .inl ⟨rfl, ?_⟩
              have e55 : a.eval (.tmp 55) = .int .i64 p := hrd 0 _ 55 rfl rfl (by kernel_rfl) (by kernel_rfl)
              have e56 : a.eval (.tmp 56) = .agg (u8s 6 (cf (rv ix))) := hrd 1 _ 56 rfl rfl (by kernel_rfl) (by kernel_rfl)
              have e60 : a.eval (.tmp 60) = .agg (u8s 6 (cf (Kf ix))) := hrd 5 _ 60 rfl rfl (by kernel_rfl) (by kernel_rfl)
              have e61 : a.eval (.tmp 61) = .int .i64 Fi := hrd 6 _ 61 rfl rfl (by kernel_rfl) (by kernel_rfl)
              exact wpv_call 77 [.tmp 55, .tmp 56, .tmp 60, .tmp 61] _ rfl [.int .i64 p, .agg (u8s 6 (cf (rv ix))), .agg (u8s 6 (cf (Kf ix))), .int .i64 Fi] (by simp only [List.map_cons, List.map_nil, e55, e56, e60, e61]) Try.call77 ((hcV.out w2).mono fun _ _ h => ⟨_, h.1, rfl, h.2⟩)
            · obtain rfl := Option.some.inj ho
              exact absurd rfl hiZ
            · simp at ho
          intro oZ hoZ vals xE hBx hSx hc0
          obtain rfl := Option.some.inj hoZ
          clear hoZ
          have e0 : vals 0 = .int .i64 p := hc0 0 (by simp) (by decide)
          have e1 : vals 1 = .agg (u8s 6 (cf (rv ix))) := hc0 1 (by simp) (by decide)
          have e2 : vals 2 = .slice (some ⟨gR, 0, none⟩) k cR := hc0 2 (by simp) (by decide)
          have e3 : vals 3 = .int .i64 ((ix : Nat) : Int) := hc0 3 (by simp) (by decide)
          have e4 : vals 4 = .pointer (some ⟨gR, ix * 6, none⟩) := hc0 4 (by simp) (by decide)
          have e5 : vals 5 = .agg (u8s 6 (cf (Kf ix))) := hc0 5 (by simp) (by decide)
          have e6 : vals 6 = .int .i64 Fi := hc0 6 (by simp) (by decide)
          have e7 : vals 7 = .agg (u8s 6 (cf (rv (ix + 1)))) := hc0 7 (by simp) (by decide)
          refine ⟨rfl, ?_⟩
          simp only [List.length_cons, List.length_nil, Nat.zero_add, Nat.reduceAdd, List.replicate, seenAll, Bool.false_eq_true, if_false, putAll, if_true, Act.put, List.setIfInBounds_toArray, List.set_cons_zero, List.set_cons_succ, e0, e1, e2, e3, e4, e5, e6, e7]
          replace hU := hU.keep hBx
          replace hW := hSx.1
          replace hz := below_step hz hBx
          clear hc0 hSx e0 e1 e2 e3 e4 e5 e6 e7
          clear hBx
          refine wp_store_arr 28 _ _ rfl gO rfl (u8s 6 (cf (rv (ix + 1)))) rfl (u8s 6 (cf (rv ix))) _ hW sRow (by simp only [u8s_size]) (u8s_oneCell _ _) ?_
          have hW2 := hW.setRow_same (cs := u8s 6 (cf (rv (ix + 1))))
          have hU2 := hU.setRow_other (g := gO) (cs := u8s 6 (cf (rv (ix + 1)))) hSO
          have hz2 := below_setRow hz (g := gO) hgO (u8s 6 (cf (rv (ix + 1))))
          clear hW hU hz
          generalize World.setRow xE gO (u8s 6 (cf (rv (ix + 1)))) = vE at *
          have hW := hW2
          have hU := hU2
          have hz := hz2
          clear hW2 hU2 hz2
          go_upto_region 13 with (fail)
          go_upto_region 13 with (fail)
          refine gen_last (w := _) (by kernel_rfl) (by kernel_rfl) (by kernel_rfl) 8 (by kernel_rfl)
              (fun i => ([fun zv _ => zv = .int .i64 p, fun zv _ => zv = .agg (u8s 64 (cf (ro ix))), fun zv _ => zv = .slice (some ⟨gT, 0, none⟩) k cT, fun zv _ => zv = .int .i64 ((ix : Nat) : Int), fun zv _ => zv = .pointer (some ⟨gT, ix * 64, none⟩), fun zv _ => zv = .agg (u8s 64 (cf (Tf ix))), fun zv _ => zv = .int .i64 Fi, fun zv _ => zv = .agg (u8s 64 (cf (ro (ix + 1)))), fun _ _ => True] : List (Value → World → Prop)).getD i (fun _ _ => True))
              (fun w' => Blk w' (gS) (u8s 64 (cf (ro ix))) 25 ∧ True) ⟨hU.drew, trivial⟩ (fun w1 w2 h hb => ⟨h.1.keep hb, trivial⟩) ?_ ?_ ?_
          · intro i v w1 w2 h hb
            rcases i with _|_|_|_|_|_|_|_|_|i
            · exact h
            · exact h
            · exact h
            · exact h
            · exact h
            · exact h
            · exact h
            · exact h
            · exact h
            · exact h
          · intro i o ho hiZ a w2 hBl hSx hrd hpar
            rcases i with _|_|_|_|_|_|_|_|_|i
            · obtain rfl := Option.some.inj ho
              refine .inl ⟨rfl, ?_⟩
              have e0 : a.eval (.tmp 0) = .int .i64 p := hpar 0 _ (by kernel_rfl) (by kernel_rfl)
              exact wpv_of (wp_move _ _ rfl e0) (fun _ _ => rfl)
            · obtain rfl := Option.some.inj ho
              refine .inl ⟨rfl, ?_⟩
              exact wpv_of (wp_loadB 25 _ rfl _ (hpar 13 (.pointer (some ⟨gS, 0, none⟩)) (by kernel_rfl) (by kernel_rfl)) _ _ hSx.1 _ _ uPoly sPoly) (fun _ _ => rfl)
            · obtain rfl := Option.some.inj ho
              refine .inl ⟨rfl, ?_⟩
              have e10 : a.eval (.tmp 10) = .slice (some ⟨gT, 0, none⟩) k cT := hpar 10 _ (by kernel_rfl) (by kernel_rfl)
              exact wpv_of (wp_move _ _ rfl e10) (fun _ _ => rfl)
            · obtain rfl := Option.some.inj ho
              refine .inl ⟨rfl, ?_⟩
              have e14 : a.eval (.tmp 14) = .int .i64 ((ix : Nat) : Int) := hpar 14 _ (by kernel_rfl) (by kernel_rfl)
              exact wpv_of (wp_move _ _ rfl e14) (fun _ _ => rfl)
            · obtain rfl := Option.some.inj ho
              refine .inl ⟨rfl, ?_⟩
              have e65 : a.eval (.tmp 65) = .slice (some ⟨gT, 0, none⟩) k cT := hrd 2 _ 65 rfl rfl (by kernel_rfl) (by kernel_rfl)
              have e66 : a.eval (.tmp 66) = .int .i64 ((ix : Nat) : Int) := hrd 3 _ 66 rfl rfl (by kernel_rfl) (by kernel_rfl)
              exact wpv_of (wp_index_bs 38 25 64 _ _ rfl uPolysA sPoly (by decide) gT k cT ix .i64 e65 e66 hlt) (fun _ _ => rfl)
            · obtain rfl := Option.some.inj ho
              refine .inl ⟨rfl, ?_⟩
              have e67 : a.eval (.tmp 67) = .pointer (some ⟨gT, ix * 64, none⟩) := hrd 4 _ 67 rfl rfl (by kernel_rfl) (by kernel_rfl)
              exact wpv_of (wp_load_bs 25 _ rfl 64 gT (ix * 64) e67 _ (((hT.out.below hz).below hBl).cells (by decide) ix hlt) _ uPoly sPoly) (fun _ _ => rfl)
            · obtain rfl := Option.some.inj ho
              refine .inl ⟨rfl, ?_⟩
              have e16 : a.eval (.tmp 16) = .int .i64 Fi := hpar 16 _ (by kernel_rfl) (by kernel_rfl)
              exact wpv_of (wp_move _ _ rfl e16) (fun _ _ => rfl)
            · obtain rfl := Option.some.inj ho
              refine .inl ⟨rfl, ?_⟩
              have e63 : a.eval (.tmp 63) = .int .i64 p := hrd 0 _ 63 rfl rfl (by kernel_rfl) (by kernel_rfl)
              have e64 : a.eval (.tmp 64) = .agg (u8s 64 (cf (ro ix))) := hrd 1 _ 64 rfl rfl (by kernel_rfl) (by kernel_rfl)
              have e68 : a.eval (.tmp 68) = .agg (u8s 64 (cf (Tf ix))) := hrd 5 _ 68 rfl rfl (by kernel_rfl) (by kernel_rfl)
              have e69 : a.eval (.tmp 69) = .int .i64 Fi := hrd 6 _ 69 rfl rfl (by kernel_rfl) (by kernel_rfl)
              exact wpv_call 78 [.tmp 63, .tmp 64, .tmp 68, .tmp 69] _ rfl [.int .i64 p, .agg (u8s 64 (cf (ro ix))), .agg (u8s 64 (cf (Tf ix))), .int .i64 Fi] (by simp only [List.map_cons, List.map_nil, e63, e64, e68, e69]) Try.call78 ((hcO.out w2).mono fun _ _ h => ⟨_, h.1, rfl, h.2⟩)
            · obtain rfl := Option.some.inj ho
              exact absurd rfl hiZ
            · simp at ho
          intro oZ hoZ vals xF hBx hSx hc0
          obtain rfl := Option.some.inj hoZ
          clear hoZ
          have e0 : vals 0 = .int .i64 p := hc0 0 (by simp) (by decide)
          have e1 : vals 1 = .agg (u8s 64 (cf (ro ix))) := hc0 1 (by simp) (by decide)
          have e2 : vals 2 = .slice (some ⟨gT, 0, none⟩) k cT := hc0 2 (by simp) (by decide)
          have e3 : vals 3 = .int .i64 ((ix : Nat) : Int) := hc0 3 (by simp) (by decide)
          have e4 : vals 4 = .pointer (some ⟨gT, ix * 64, none⟩) := hc0 4 (by simp) (by decide)
          have e5 : vals 5 = .agg (u8s 64 (cf (Tf ix))) := hc0 5 (by simp) (by decide)
          have e6 : vals 6 = .int .i64 Fi := hc0 6 (by simp) (by decide)
          have e7 : vals 7 = .agg (u8s 64 (cf (ro (ix + 1)))) := hc0 7 (by simp) (by decide)
          refine ⟨rfl, ?_⟩
          simp only [List.length_cons, List.length_nil, Nat.zero_add, Nat.reduceAdd, List.replicate, seenAll, Bool.false_eq_true, if_false, putAll, if_true, Act.put, List.setIfInBounds_toArray, List.set_cons_zero, List.set_cons_succ, e0, e1, e2, e3, e4, e5, e6, e7]
          replace hW := hW.keep hBx
          replace hU := hSx.1
          replace hz := below_step hz hBx
          clear hc0 hSx e0 e1 e2 e3 e4 e5 e6 e7
          clear hBx
          refine wp_store_arr 25 _ _ rfl gS rfl (u8s 64 (cf (ro (ix + 1)))) rfl (u8s 64 (cf (ro ix))) _ hU sPoly (by simp only [u8s_size]) (u8s_oneCell _ _) ?_
          have hU2 := hU.setRow_same (cs := u8s 64 (cf (ro (ix + 1))))
          have hW2 := hW.setRow_other (g := gS) (cs := u8s 64 (cf (ro (ix + 1)))) (Ne.symm hSO)
          have hz2 := below_setRow hz (g := gS) hgS (u8s 64 (cf (ro (ix + 1))))
          clear hW hU hz
          go_wp2_with fail
          go_roundw
          case rel => exact ⟨ix + 1, by omega, by go_num, hW2, hU2, hz2⟩
          case measure => simp [intOf] <;> omega
      · obtain rfl : ix = k := by omega
        replace hA := hA.keep hz
        replace hV := hV.keep hz
        replace hZ := hZ.keep hz
        replace hb := below_step hb hz
        have hR1 := Lib.hid (hR.out.below hz)
        have hT1 := Lib.hid (hT.out.below hz)
        have hR6v : R6 p (rv ix) := ⟨hpH.out, (hrP2.out ix (Nat.le_refl _)).pv, by have := hrle2.out ix (Nat.le_refl _); omega⟩
        by_cases hvn : rv ix = []
        · have hce : ro ix = c := Known.same hpH.out hS.out.st.none hminH.out (hred.out.done hvn) hcH.out
          have hvnH := Lib.hid hvn
          clear hvn
          go_wp2_with ((with_reducible refine wpl_guard ?_); first | (refine wpl_load_arr rfl 28 _ rfl _ rfl _ _ hW _ _ uRow sRow ?_) | (refine wpl_load_arr rfl 25 _ rfl _ rfl _ _ hU _ _ uPoly sPoly ?_) | (refine wpl_build_zero rfl 28 6 5 rfl _ uRow sByte zRow ?_) | (refine wpl_eql_arr rfl 28 _ _ _ rfl 6 .u8 (cf (rv ix)) (cf []) 5 rfl rfl uRow uByte sByte gRow _ (zR_dec hvnH.out) ?_) | (refine wpl_store_arr rfl 25 _ _ rfl _ rfl _ rfl _ _ hZ sPoly (by simp only [u8s_size]) (u8s_oneCell _ _) ?_))
          exact bodyPost_ret (res_c rfl rfl (hZ.setRow_same (cs := u8s 64 (cf (ro ix)))) uPoly sPoly) rfl ⟨by rw [hce], below_setRow hb (by omega) _⟩
        · have hnext := hS.out.next hpH.out hred.out hvn (hrle2.out ix (Nat.le_refl _))
          have hkn2 := hnext.le
          have hnextH := Lib.hid hnext
          have hvnH := Lib.hid hvn
          have hR6H := Lib.hid hR6v
          clear hnext hvn hR6v
          have hneO : ∀ vR : Value, (∀ g, vR.ownBlock = some g → g < w0.heap.size) → some gO ≠ vR.ownBlock ∧ some gS ≠ vR.ownBlock := fun vR h => ⟨fun e => by have := h _ e.symm; omega, fun e => by have := h _ e.symm; omega⟩
          have hneR := hneO _ (fun g e => (hR.out.lt g e).2)
          have hneT := hneO _ (fun g e => (hT.out.lt g e).2)
          have hRlo := Lib.hid (fun g e => (hR.out.lt g e).1)
          have hTlo := Lib.hid (fun g e => (hT.out.lt g e).1)
          have hszq := hz.size
          clear hneO hR hT hz
          go_upto_region 16 with ((with_reducible refine wpl_guard ?_); first | (refine wpl_load_arr rfl 28 _ rfl _ rfl _ _ hW _ _ uRow sRow ?_) | (refine wpl_build_zero rfl 28 6 5 rfl _ uRow sByte zRow ?_) | (refine wpl_eql_arr rfl 28 _ _ _ rfl 6 .u8 (cf (rv ix)) (cf []) 5 rfl rfl uRow uByte sByte gRow _ (nzR_dec hR6H.out hvnH.out) ?_))
          have hR2 := Lib.hid ((hR1.out.ext (by decide) (M' := insF ix (rv ix) Kf) fun i hi => (insF_lt hi).symm).below (below_new wq (.cells (u8s 6 (cf (rv ix))) 28)))
          have hn := below_new wq (.cells (u8s 6 (cf (rv ix))) 28)
          have hnew := Lib.hid (arr_news wq 6 28 (rv ix))
          replace hA := hA.keep hn
          replace hV := hV.keep hn
          replace hZ := hZ.keep hn
          have hU1 := hU.keep hn
          have hW1 := hW.keep hn
          replace hb := below_step hb hn
          have hT2 := Lib.hid (hT1.out.below hn)
          clear hn hR1 hT1
          go_upto_region 17 with ((with_reducible refine wpl_guard ?_); first | (refine wpl_load_arr rfl 28 _ rfl _ rfl _ _ hW _ _ uRow sRow ?_) | (refine wpl_buildSlice_arr rfl 87 28 6 _ rfl uRowsA sRow zRow (by decide) (by decide) (cf (rv ix)) rfl ?_) | (at_builtin; refine wpl_append_grow rfl _ _ 87 rfl (w.heap.size + 3) 28 _ 6 6 uRowsA iRowA (by simp [Value.cells, u8s_size]) (by decide) (by decide) _ ix _ rfl hR2.out ⟨wq.heap.size, 0, none⟩ 1 1 rfl (u8s 6 (cf (rv ix))).toList (by rw [Array.length_toList, u8s_size]) (fun j u h => by rw [addr_add]; exact hnew.out j u h) (arr_ones 6 (rv ix)) (by omega) (by simp only [size_alloc]; omega) ?_; intro vR2 y2 hown2 hg2))
          have hne3 : ∀ g : Nat, w.heap.size + 3 ≤ g → w.heap.size ≠ g ∧ w.heap.size + 1 ≠ g ∧ w.heap.size + 1 + 1 ≠ g := fun g h => by omega
          have hA2 := hA.grown hg2 (fun e => (hne3 _ (hRlo.out _ e.symm)).1 rfl)
          have hV2 := hV.grown hg2 (fun e => (hne3 _ (hRlo.out _ e.symm)).2.1 rfl)
          have hZ2 := hZ.grown hg2 (fun e => (hne3 _ (hRlo.out _ e.symm)).2.2 rfl)
          have hU2 := hU1.grown hg2 hneR.2
          have hb2 := hb.trans (grownK_below hg2 (fun k e => by have := hRlo.out k e; omega) hb.size)
          have hT3 := hT2.out.kept hg2 (.inr (Ne.symm hap.out))
          have hR3 := Lib.hid (BsL.snoc (by decide) (insF_at ix (rv ix) Kf) hown2)
          have hszy : w0.heap.size ≤ y2.heap.size := by have := hg2.size; rw [size_alloc] at this; omega
          have hR2lt := Lib.hid (fun g e => (hR2.out.lt g e).2)
          have hapR : ∀ g, vR2.ownBlock = some g → (Value.slice oT ix cT).ownBlock ≠ some g := fun g e f => by
            have h1 : ∃ cur fz, y2.heap[g]? = some (.cells cur 28 fz) := by
              rcases hR3.out.2 with ⟨h1, _⟩ | ⟨g', cap, cur, h1, _, h3, _⟩
              · rw [h1] at e; cases e
              · rw [h1] at e; obtain rfl : g' = g := (by simpa [Value.ownBlock] using e); exact ⟨cur, _, h3⟩
            have h2 : ∃ cur fz, y2.heap[g]? = some (.cells cur 25 fz) := by
              rcases hT3.2 with ⟨h1, _⟩ | ⟨g', cap, cur, h1, _, h3, _⟩
              · rw [h1] at f; cases f
              · rw [h1] at f; obtain rfl : g' = g := (by simpa [Value.ownBlock] using f); exact ⟨cur, _, h3⟩
            obtain ⟨_, _, h1⟩ := h1
            obtain ⟨_, _, h2⟩ := h2
            rw [h1] at h2
            injection h2 with h2; injection h2 with _ h3
            exact absurd h3 (by decide)
          have hn := below_new y2 (.cells (u8s 64 (cf (ro ix))) 25)
          have hnewT := Lib.hid (arr_news y2 64 25 (ro ix))
          have hT4 := Lib.hid ((hT3.ext (by decide) (M' := insF ix (ro ix) Tf) fun i hi => (insF_lt hi).symm).below hn)
          have hR4 := Lib.hid (hR3.out.below hn)
          have hA4 := hA2.keep hn
          have hV4 := hV2.keep hn
          have hZ4 := hZ2.keep hn
          have hb4 := below_step hb2 hn
          obtain ⟨oR2, cR2, rfl⟩ := hR3.out.sl
          clear hA hV hZ hU1 hW1 hb hA2 hV2 hZ2 hb2 hT3 hR3 hn hown2 hg2 hT2 hR2 hR2lt hW hU hap hneR
          go_upto_region 18 with ((with_reducible refine wpl_guard ?_); first | (refine wpl_load_arr rfl 25 _ rfl _ rfl _ _ hU2 _ _ uPoly sPoly ?_) | (refine wpl_buildSlice_arr rfl 38 25 64 _ rfl uPolysA sPoly zPoly (by decide) (by decide) (cf (ro ix)) rfl ?_) | (at_builtin; refine wpl_append_grow rfl _ _ 38 rfl (w.heap.size + 3) 25 _ 64 64 uPolysA iPolyA (by simp [Value.cells, u8s_size]) (by decide) (by decide) _ ix _ rfl hT4.out ⟨y2.heap.size, 0, none⟩ 1 1 rfl (u8s 64 (cf (ro ix))).toList (by rw [Array.length_toList, u8s_size]) (fun j u h => by rw [addr_add]; exact hnewT.out j u h) (arr_ones 64 (ro ix)) (by omega) (by simp only [size_alloc]; omega) ?_; intro vT2 y4 hown4 hg4))
          have hA5 := hA4.grown hg4 (fun e => (hne3 _ (hTlo.out _ e.symm)).1 rfl)
          have hV5 := hV4.grown hg4 (fun e => (hne3 _ (hTlo.out _ e.symm)).2.1 rfl)
          have hZ5 := hZ4.grown hg4 (fun e => (hne3 _ (hTlo.out _ e.symm)).2.2 rfl)
          have hb5 := hb4.trans (grownK_below hg4 (fun k e => by have := hTlo.out k e; omega) hb4.size)
          have hR5 := Lib.hid (hR4.out.kept hg4 (by
            cases h : (Value.slice oR2 (ix + 1) cR2).ownBlock with
            | none => exact .inl rfl
            | some q => exact .inr fun e => hapR q h e.symm))
          have hT5 := Lib.hid (BsL.snoc (by decide) (insF_at ix (ro ix) Tf) hown4)
          clear hA4 hV4 hZ4 hb4 hR4 hT4 hown4 hg4 hU2 hapR hneT hRlo hTlo hnewT hnew
          go_wp2_with ((with_reducible refine wpl_guard ?_); first | (refine wpl_load_arr rfl 30 _ rfl _ rfl _ _ hA5 _ _ uSquare sSquare ?_) | (refine wpl_load_arr rfl 28 _ rfl _ rfl _ _ hV5 _ _ uRow sRow ?_))
          refine (hled.out ix _).mono ?_
          rintro e y5 ⟨rfl, hn⟩
          have hA6 := hA5.keep hn
          have hV6 := hV5.keep hn
          have hZ6 := hZ5.keep hn
          have hb6 := below_step hb5 hn
          have hR6 := Lib.hid (hR5.out.below hn)
          have hT6 := Lib.hid (hT5.out.below hn)
          clear hA5 hV5 hZ5 hb5 hR5 hT5 hn
          go_wp2_with ((with_reducible refine wpl_guard ?_); first | (refine wpl_store_arr rfl 28 _ _ rfl _ rfl _ rfl _ _ hV6 sRow (by simp only [u8s_size]) (u8s_oneCell _ _) ?_))
          have hV7 := hV6.setRow_same (cs := u8s 6 (cf (x (ix + 1))))
          have hA7 := hA6.setRow_other (g := w.heap.size + 1) (cs := u8s 6 (cf (x (ix + 1)))) (by omega)
          have hZ7 := hZ6.setRow_other (g := w.heap.size + 1) (cs := u8s 6 (cf (x (ix + 1)))) (by omega)
          have hb7 := below_setRow hb6 (g := w.heap.size + 1) (by omega) (u8s 6 (cf (x (ix + 1))))
          have hsg := setRowK_grown y5 (w.heap.size + 1) (u8s 6 (cf (x (ix + 1))))
          have hR7 := Lib.hid (hR6.out.kept hsg (.inr fun e => by have := (hR6.out.lt _ e).1; omega))
          have hT7 := Lib.hid (hT6.out.kept hsg (.inr fun e => by have := (hT6.out.lt _ e).1; omega))
          have hap7 : ∀ vT : Value, BsL 25 64 y5 (w.heap.size + 3) vT (ix + 1) (insF ix (ro ix) Tf) → (Value.slice oR2 (ix + 1) cR2).ownBlock ≠ vT.ownBlock := fun vT hvT e => by
            obtain ⟨gg, cc, h1, _⟩ := hR6.out.form (by omega)
            obtain ⟨gt, ct, rfl, _⟩ := hvT.form (by omega)
            rw [h1] at e
            have e2 : gg = gt := by simpa [Value.ownBlock] using e
            subst e2
            have h2 : ∃ cur fz, y5.heap[gg]? = some (.cells cur 28 fz) := by
              rcases hR6.out.2 with ⟨h3, _⟩ | ⟨g', cap, cur, h3, _, h4, _⟩
              · rw [h3] at h1; cases h1
              · rw [h3] at h1; obtain ⟨rfl, _⟩ : g' = gg ∧ True := (by simp at h1; exact ⟨h1.1, trivial⟩); exact ⟨cur, _, h4⟩
            have h5 : ∃ cur fz, y5.heap[gg]? = some (.cells cur 25 fz) := by
              rcases hvT.2 with ⟨h3, _⟩ | ⟨g', cap, cur, h3, _, h4, _⟩
              · cases h3
              · obtain ⟨rfl, _⟩ : g' = gg ∧ True := (by simp at h3; exact ⟨h3.1.symm, trivial⟩); exact ⟨cur, _, h4⟩
            obtain ⟨_, _, h2⟩ := h2
            obtain ⟨_, _, h5⟩ := h5
            rw [h2] at h5
            injection h5 with h5; injection h5 with _ h6
            exact absurd h6 (by decide)
          have hap8 := Lib.hid (hap7 _ hT6.out)
          clear hA6 hV6 hZ6 hb6 hR6 hT6 hsg hap7
          go_wp2_with fail
          go_roundw
          case rel => exact ⟨ix + 1, _, _, by go_num, hnextH, hR7, hT7, hap8, hA7, hV7, hZ7, hb7⟩
          case measure => simp [intOf] <;> omega
end Go.Proofs.Ytnkkkgaojhkniab

/- Walks: the annihilator of a residue, on the reference's side. -/
import Derived.Test.YtionaenmjndncabJ1
import Derived.Test.YtionaenmjndncabBsM
import Derived.Test.YtionaenmjndncabJK
set_option linter.unusedVariables false
set_option linter.unusedSimpArgs false
namespace Go.Proofs.Ytionaenmjndncab
open Go.RowKit
theorem uPolysJ : Try.prog.underlying 29 = some (.slice 23) := by kernel_rfl
theorem iPolyJ : (Try.prog.info? 23).map (fun i => (i.zero, i.size, i.bytes)) = some (some (.agg (u8s 64 fun _ => 0)), 64, 64) := by kernel_rfl
theorem addp_none {p : Int} {xs : List Int} (hp : 0 < p) (hx : Po p xs) (ys : List Int) (t : Int) (ht : t = 0) : addp p xs ys t = xs := (addp_Po hp _ _ _).ext hx fun i => by
  rw [addp_cf, ht, Int.zero_mul, Int.add_zero]
  exact Int.emod_eq_of_lt (hx.md i).1 (hx.md i).2
section
variable {P : Program} {ops : Array Oper} {rest : List Oper} {o : Oper} {a : Act} {w : World} {Q : Exit → Act → World → Prop}
theorem wpl_store_u8 (hw : Region.wanted o (yielded ops a.tmps) = true) (t : TypeId) (x y : Operand) (hop : o.op = .store t x y) (g k : Nat) (hx : a.eval x = .pointer (some ⟨g, k, none⟩)) (v : Int) (hy : a.eval y = .int .u8 v) (n : Nat) (f : Nat → Int) (T : TypeId) (hb : Blk w g (u8s n f) T)
    (hk : k < n) (hs : (P.info? t).map (·.size) = some 1) (h : wpList P ops Q rest (a.put o.dst undef) (w.setRow g (u8s n (fun j => if j = k then v else f j)))) : wpList P ops Q (o :: rest) a w :=
  wpl_wanted hw fun _ hK => wp_store_arrN t x y hop g k hx (.int .u8 v) hy n (fun j => .int .u8 (f j)) T hb hk hs rfl (by
    rw [show arr n (fun j => if j = k then Value.int .u8 v else .int .u8 (f j)) = u8s n (fun j => if j = k then v else f j) from arr_ext fun j _ => by by_cases e : j = k <;> simp [e]]
    exact hK _ _ h)
end
theorem onek_set (k : Nat) : u8s 64 (fun j => if j = k then 1 else (fun _ => (0 : Int)) j) = u8s 64 (cf (onek k)) := u8s_ext fun j _ => by rw [onek_cf]
theorem copy_done {xs : List Int} {N : Nat} (h : xs.length ≤ N) : u8s 64 (fun q => if q < N then cf xs q else 0) = u8s 64 (cf xs) := u8s_ext fun j _ => by
  by_cases e : j < N
  · rw [if_pos e]
  · rw [if_neg e, cf_ge _ _ (by omega)]
set_option maxRecDepth 20000 in
set_option maxHeartbeats 8000000 in
theorem l04Annihilator_any (p : Int) (ms x0 : List Int) (kr gL : Nat) (c : List Int) (w : World) (hp : Pr p) (hm : P64 p ms) (hne : ms ≠ []) (lm : ms.length ≤ 6) (hx : Po p x0) (hxl : x0.length < ms.length) (hL : Blk w gL (u8s 64 (cf x0)) 23)
    (hc : Rel p (fun j => cf (stpN p ms x0 j)) kr c) (hmin : ∀ j, j < kr → ¬ ∃ e, Rel p (fun j => cf (stpN p ms x0 j)) j e) :
    Calls Try.prog 55 #[.int .i64 p, .slice (some ⟨gL, 0, none⟩) 1 1, .agg (u8s 64 (cf ms))] w fun e w' => e = .returned (.agg (u8s 64 (cf c))) ∧ Below w.heap.size w w' := by
  have hp2 := hp.pos
  have hpH := Lib.hid hp
  have hinv1 := Lib.hid (invp_one hp)
  have hsN := stpN_ok hp hx hxl hm.po hne
  obtain ⟨N, hN⟩ : ∃ N, ms.length - 1 = N := ⟨_, rfl⟩
  have hml := List.length_pos_iff.2 hne
  have hNI : ((ms.length : Nat) : Int) - 1 = (N : Int) := by omega
  have hN5 : N ≤ 5 := by omega
  have hxP := Lib.hid (fun k => (hsN k).1)
  have hxL := Lib.hid (fun k => (by have := (hsN k).2; omega : (stpN p ms x0 k).length ≤ N))
  have hstp := Lib.hid (fun k w => l04Step_any (stpN p ms x0 k) ms p w ⟨hp, (hsN k).1, by have := (hsN k).2; omega⟩ hm hne)
  have hdm := Lib.hid (fun w => by have := l01Deg_list p ms w hm; rw [hNI] at this; exact this)
  have hcH := Lib.hid hc
  have hminH := Lib.hid hmin
  obtain ⟨x, hxe⟩ : ∃ x, stpN p ms x0 = x := ⟨_, rfl⟩
  have hx0 : x0 = x 0 := by rw [← hxe]; rfl
  have hstE : ∀ k, stp p ms (stpN p ms x0 k) = x (k + 1) := fun k => by rw [← hxe]; rfl
  simp only [hstE] at hstp
  rw [hxe] at hxP hxL hstp hcH hminH
  rw [hx0] at hL
  obtain ⟨hb, hM, hZ⟩ := boxes2 w (u8s 64 (cf ms)) (u8s 64 fun _ => 0) 23 23
  have hLx := (hL.alloc (.cells (u8s 64 (cf ms)) 23)).alloc (.cells (u8s 64 fun _ => 0) 23)
  clear hp hm hne lm hx hxl hL hc hmin hsN hN hml hNI hxe hx0 hstE
  go_enter Try.func55, Try.ntmps55
  go_wp2_with ((with_reducible refine wpl_guard ?_); first | (refine wpl_alloc_arr rfl 23 rfl _ zPoly ?_) | (refine wpl_load_arr rfl 23 _ rfl _ rfl _ _ hM _ _ uPoly sPoly ?_))
  refine (hdm.out _).mono ?_
  rintro e w9 ⟨rfl, hn⟩
  have hs9 : w.heap.size + 2 ≤ w9.heap.size := by have := hn.size; simp only [size_alloc] at this; omega
  replace hM := hM.keep hn
  replace hZ := hZ.keep hn
  replace hb := below_step hb hn
  have hL9 := hLx.keep hn
  clear hn hLx hdm
  have hR0 := ((BsL.void w9 23 64 (fun _ => [])).mono (B' := w.heap.size + 2) (by omega))
  have hT0 := ((BsL.void (w9.alloc (.cells #[] 23)) 23 64 (fun _ => [])).mono (B' := w.heap.size + 2) (by simp only [size_alloc]; omega))
  have hV0 := ((BsL.void ((w9.alloc (.cells #[] 23)).alloc (.cells #[] 23)) 23 64 (fun _ => x 0)).mono (B' := w.heap.size + 2) (by simp only [size_alloc]; omega))
  have hnA := below_new ((w9.alloc (.cells #[] 23)).alloc (.cells #[] 23)) (.cells #[] 23)
  have hnB := below_new (w9.alloc (.cells #[] 23)) (.cells #[] 23)
  have hnC := below_new w9 (.cells #[] 23)
  have hn9 : Below w9.heap.size w9 (((w9.alloc (.cells #[] 23)).alloc (.cells #[] 23)).alloc (.cells #[] 23)) := (hnC.alloc (by simp) _).alloc (by simp only [size_alloc]; omega) _
  have hR1 := Lib.hid ((hR0.below hnB).below hnA)
  have hT1 := Lib.hid (hT0.below hnA)
  simp only [size_alloc] at hT1 hV0
  have hV1 := Lib.hid hV0
  replace hM := hM.keep hn9
  replace hZ := hZ.keep hn9
  replace hb := below_step hb hn9
  have hL1 := hL9.keep hn9
  have hnews := Lib.hid (fun j u (hj : ((u8s 64 (cf (x 0))).toList)[j]? = some u) => (by rw [hL1.cell, ← Array.getElem?_toList]; exact hj : (((w9.alloc (.cells #[] 23)).alloc (.cells #[] 23)).alloc (.cells #[] 23)).cell? ⟨gL, j, none⟩ = some u))
  clear hR0 hT0 hV0 hnA hnB hnC hn9 hL9 hL1
  go_wp2_with ((with_reducible refine wpl_guard ?_); first | (refine wpl_buildSlice_voidB rfl 29 23 64 rfl uPolysJ sPoly (by rw [zPoly]; rfl) ?_) | (at_builtin; refine wpl_append_farB rfl _ _ 29 rfl (w.heap.size + 2) 23 _ 64 64 uPolysJ iPolyJ (by simp [Value.cells, u8s_size]) (by decide) (by decide) _ 0 _ rfl hV1.out ⟨gL, 0, none⟩ rfl (u8s 64 (cf (x 0))).toList (by rw [Array.length_toList, u8s_size]) (fun j u h => by rw [addr_add]; exact hnews.out j u h) (arr_ones 64 (x 0)) (by omega) (by simp only [size_alloc]; omega) ?_))
  intro vN w8 hown8 hg8 hfar8
  have hN8 := Lib.hid (show BsL 23 64 w8 (w.heap.size + 2) vN 1 (fun _ => x 0) from by
    have h := hown8
    unfold BsL
    rw [bcells_succ (by decide)]
    exact h)
  obtain ⟨gN, cN, rfl, hgN⟩ := hN8.out.form (by omega)
  have hgN2 : gN = w9.heap.size + 1 + 1 ∨ gN = w9.heap.size + 1 + 1 + 1 := by
    rcases hfar8 with h | h
    · exact .inl (by simpa [Value.ownBlock] using h)
    · exact .inr (by simpa [Value.ownBlock] using h)
  have hR8 := Lib.hid (hR1.out.kept hg8 (.inr (by simp only [Value.ownBlock]; intro e; injection e with e; omega)))
  have hT8 := Lib.hid (hT1.out.kept hg8 (.inr (by simp only [Value.ownBlock]; intro e; injection e with e; omega)))
  have hM8 := hM.grown hg8 (by simp only [Value.ownBlock]; intro e; injection e with e; omega)
  have hZ8 := hZ.grown hg8 (by simp only [Value.ownBlock]; intro e; injection e with e; omega)
  have hb8 := hb.trans (grownK_below hg8 (fun k e => by simp only [Value.ownBlock] at e; injection e with e; omega) hb.size)
  have hap0 := Lib.hid ((fun g e f => by simp only [Value.ownBlock] at e f; injection e with e; injection f with f; omega) : ∀ g, (Value.slice (some ⟨w9.heap.size, 0, none⟩) 0 0).ownBlock = some g → (Value.slice (some ⟨w9.heap.size + 1, 0, none⟩) 0 0).ownBlock = some g → False)
  have hRN0 := Lib.hid (show (Value.slice (some ⟨w9.heap.size, 0, none⟩) 0 0).ownBlock ≠ some gN from fun e => by simp only [Value.ownBlock] at e; injection e with e; omega)
  have hTN0 := Lib.hid (show (Value.slice (some ⟨w9.heap.size + 1, 0, none⟩) 0 0).ownBlock ≠ some gN from fun e => by simp only [Value.ownBlock] at e; injection e with e; omega)
  clear hown8 hg8 hfar8 hR1 hT1 hV1 hM hZ hb hnews hgN2
  go_wp2_with fail
  go_loopw [8, 9, 11] (fun vR vT kv wr => ∃ (k : Nat) (Kf Tf : Nat → List Int), kv = .int .i64 (k : Int) ∧ Hid (KM p x N k Kf Tf) ∧ Hid (BsL 23 64 wr (w.heap.size + 2) vR k Kf) ∧ Hid (BsL 23 64 wr (w.heap.size + 2) vT k Tf) ∧ Hid (BsL 23 64 wr (w.heap.size + 2) (.slice (some ⟨gN, 0, none⟩) 1 cN) 1 (fun _ => x k)) ∧ Hid (∀ g, vR.ownBlock = some g → vT.ownBlock = some g → False) ∧ Hid (vR.ownBlock ≠ some gN) ∧ Hid (vT.ownBlock ≠ some gN) ∧ Blk wr w.heap.size (u8s 64 (cf ms)) 23 ∧ Blk wr (w.heap.size + 1) (u8s 64 fun _ => 0) 23 ∧ Below w.heap.size w wr) (fun _ _ kv _ => N - (intOf kv).toNat)
  case atStart => exact ⟨0, fun _ => [], fun _ => [], rfl, Lib.hid (KM.zero _ _ _ _ _), hR8, hT8, hN8, hap0, hRN0, hTN0, hM8, hZ8, hb8⟩
  case round =>
    clear hR8 hT8 hN8 hap0 hRN0 hTN0 hM8 hZ8 hb8 hs9
    rename World => w0
    obtain ⟨k, Kf, Tf, rfl, hS, hR, hT, hN, hap, hRN, hTN, hM, hZ, hb⟩ := hrel
    obtain ⟨oR, cR, rfl⟩ := hR.out.sl
    obtain ⟨oT, cT, rfl⟩ := hT.out.sl
    have hkn := hS.out.le
    have hred := Lib.hid (hS.out.st.red hpH.out (hxP.out k) k (Nat.le_refl k))
    have hrle := Lib.hid (fun i (hi : i ≤ k) => red_len (p := p) (T := Tf) (o := onek k) (fun i (hi : i < k) => (hS.out.len i hi).2) (hxL.out k) (fun a => a.length - 1) i hi)
    have hredP := Lib.hid (fun i (hi : i ≤ k) => hS.out.st.red hpH.out (hxP.out k) i hi)
    obtain ⟨rv, hrv⟩ : ∃ f, f = fun i => (redN p (fun a => a.length - 1) Kf Tf (x k) (onek k) i).1 := ⟨_, rfl⟩
    obtain ⟨ro, hro⟩ : ∃ f, f = fun i => (redN p (fun a => a.length - 1) Kf Tf (x k) (onek k) i).2 := ⟨_, rfl⟩
    have hst1 := Lib.hid (fun i => (by rw [hrv]; rfl : rv (i + 1) = addp p (rv i) (Kf i) (-(cf (rv i) ((Kf i).length - 1)) * invp p (cf (Kf i) ((Kf i).length - 1)))))
    have hst2 := Lib.hid (fun i => (by rw [hrv, hro]; rfl : ro (i + 1) = addp p (ro i) (Tf i) (-(cf (rv i) ((Kf i).length - 1)) * invp p (cf (Kf i) ((Kf i).length - 1)))))
    have hrv0 := Lib.hid (by rw [hrv]; rfl : rv 0 = x k)
    have hro0 := Lib.hid (by rw [hro]; rfl : ro 0 = onek k)
    rw [show (redN p (fun a => a.length - 1) Kf Tf (x k) (onek k) k).1 = rv k by rw [hrv], show (redN p (fun a => a.length - 1) Kf Tf (x k) (onek k) k).2 = ro k by rw [hro]] at hred
    have hrle2 := Lib.hid (fun i (hi : i ≤ k) => (by rw [hrv]; exact hrle.out i hi : (rv i).length ≤ N))
    have hrP2 := Lib.hid (fun i (hi : i ≤ k) => (by rw [hrv, hro]; exact hredP.out i hi : Red p x (fun a => a.length - 1) k Kf i (rv i) (ro i)))
    clear hrv hro hrle hredP
    have hszW : w.heap.size + 1 < w0.heap.size := hZ.lt
    have hgNlt : gN < w0.heap.size := (hN.out.lt gN rfl).2
    have hsb : w.heap.size ≤ w0.heap.size := by omega
    have hO0 := (Blk.new w0 (u8s 64 fun _ => 0) 23).alloc (.cells (u8s 64 fun _ => 0) 23)
    have hS0 := Blk.newAt (w := w0.alloc (.cells (u8s 64 fun _ => 0) 23)) (n := w0.heap.size + 1) (by simp) (u8s 64 fun _ => 0) 23
    have hO1 := hO0.setRow_same (cs := u8s 64 fun _ => 0)
    have hS1 := hS0.setRow_other (g := w0.heap.size) (cs := u8s 64 fun _ => 0) (by omega)
    have hO2 := hO1.setRow_other (g := w0.heap.size + 1) (cs := u8s 64 fun _ => 0) (by omega)
    have hS2 := hS1.setRow_same (cs := u8s 64 fun _ => 0)
    have hz0 : Below w0.heap.size w0 ((((w0.alloc (.cells (u8s 64 fun _ => 0) 23)).alloc (.cells (u8s 64 fun _ => 0) 23)).setRow w0.heap.size (u8s 64 fun _ => 0)).setRow (w0.heap.size + 1) (u8s 64 fun _ => 0)) :=
      below_setRow (below_setRow ((below_new w0 _).alloc (by simp) _) (Nat.le_refl _) _) (by omega) _
    go_upto_region 7 with ((with_reducible refine wpl_guard ?_); first | (refine wpl_build_zero rfl 23 64 5 rfl _ uPoly sByte zPoly ?_) | (refine wpl_alloc_arr rfl 23 rfl _ zPoly ?_) | (refine wpl_store_arr rfl 23 _ _ rfl _ rfl (u8s 64 fun _ => 0) rfl _ _ hO0 sPoly (by simp only [u8s_size]) (u8s_oneCell _ _) ?_) | (refine wpl_store_arr rfl 23 _ _ rfl _ rfl (u8s 64 fun _ => 0) rfl (u8s 64 fun _ => 0) 23 (by rw [size_alloc]; exact hS1) sPoly (by simp only [u8s_size]) (u8s_oneCell _ _) ?_))
    simp only [Act.put, List.setIfInBounds_toArray, List.set_cons_zero, List.set_cons_succ, size_alloc]
    generalize World.setRow (World.setRow _ w0.heap.size (u8s 64 fun _ => 0)) (w0.heap.size + 1) (u8s 64 fun _ => 0) = y0 at *
    have hR1 := Lib.hid (hR.out.below hz0)
    have hT1 := Lib.hid (hT.out.below hz0)
    have hN1 := Lib.hid (hN.out.below hz0)
    have hM1 := hM.keep hz0
    have hZ1 := hZ.keep hz0
    have hb1 := below_step hb hz0
    have hRlt := Lib.hid (fun g e => (hR.out.lt g e).2)
    have hTlt := Lib.hid (fun g e => (hT.out.lt g e).2)
    obtain ⟨gO, hgOe⟩ : ∃ g, w0.heap.size = g := ⟨_, rfl⟩
    obtain ⟨gS, hgSe⟩ : ∃ g, w0.heap.size + 1 = g := ⟨_, rfl⟩
    have hNO : gN ≠ gO := by omega
    have hNS : gN ≠ gS := by omega
    have hSO : gS ≠ gO := by omega
    have hOlo : w.heap.size + 2 ≤ gO := by omega
    have hSlo : w.heap.size + 2 ≤ gS := by omega
    have hRO : (Value.slice oR k cR).ownBlock ≠ some gO := fun e => by have := hRlt.out _ e; omega
    have hTO : (Value.slice oT k cT).ownBlock ≠ some gO := fun e => by have := hTlt.out _ e; omega
    have hRS : (Value.slice oR k cR).ownBlock ≠ some gS := fun e => by have := hRlt.out _ e; omega
    have hTS : (Value.slice oT k cT).ownBlock ≠ some gS := fun e => by have := hTlt.out _ e; omega
    replace hRN := hRN.out
    replace hTN := hTN.out
    rw [hgSe] at hS2 ⊢
    rw [hgOe] at hO2 ⊢
    clear hO0 hS0 hO1 hS1 hz0 hR hT hN hM hZ hb hgOe hgSe hRlt hTlt hgNlt hszW hsb w0
    go_wp2_with fail
    go_loopw [14] (fun iv wr => ∃ b : Nat, b ≤ 1 ∧ iv = .int .i64 (b : Int) ∧ Blk wr gO (u8s 64 (cf (if b = 0 then [] else x k))) 23 ∧ Blk wr gS (u8s 64 fun _ => 0) 23 ∧ Hid (BsL 23 64 wr (w.heap.size + 2) (.slice (some ⟨gN, 0, none⟩) 1 cN) 1 (fun _ => x (k + b))) ∧ Hid (BsL 23 64 wr (w.heap.size + 2) (.slice oR k cR) k Kf) ∧ Hid (BsL 23 64 wr (w.heap.size + 2) (.slice oT k cT) k Tf) ∧ Blk wr w.heap.size (u8s 64 (cf ms)) 23 ∧ Blk wr (w.heap.size + 1) (u8s 64 fun _ => 0) 23 ∧ Below w.heap.size w wr) (fun iv _ => 1 - (intOf iv).toNat)
    case atStart => exact ⟨0, by omega, rfl, by rw [if_pos rfl, cf_void]; exact hO2, hS2, hN1, hR1, hT1, hM1, hZ1, hb1⟩
    case round =>
      clear hO2 hS2 hN1 hR1 hT1 hM1 hZ1 hb1
      rename World => wq
      obtain ⟨b, hb1, rfl, hO, hSr, hN, hR, hT, hM, hZ, hb⟩ := hrel
      match b, hb1 with
      | 0, _ =>
        rw [if_pos rfl, cf_void] at hO
        rw [Nat.add_zero] at hN
        simp only [Int.natCast_zero]
        have hOi := hO.cast (cs' := u8s 64 (fun q => if q < 0 then cf (x k) q else 0)) (u8s_ext fun j _ => by rw [if_neg (by omega)])
        go_wp2_with fail
        go_loopw [15] (fun jv wr => ∃ j : Nat, j ≤ N ∧ jv = .int .i64 (j : Int) ∧ Blk wr gO (u8s 64 (fun q => if q < j then cf (x k) q else 0)) 23 ∧ wq.grownBy wr (some gO)) (fun jv _ => N - (intOf jv).toNat)
        case atStart => exact ⟨0, by omega, rfl, hOi, World.grownBy.refl _ _⟩
        case round =>
          clear hOi
          rename World => wj
          obtain ⟨j, hj, rfl, hOj, hgj⟩ := hrel
          have hNj := hN.out.kept hgj (.inr (by simp only [Value.ownBlock]; intro e; injection e with e; exact hNO e))
          by_cases hlt : j < N
          · have c0 : wj.cell? ⟨gN, j, none⟩ = some (.int .u8 (cf (x k) j)) := by have := hNj.cells (by decide) 0 (by decide) j (by omega); rwa [Nat.zero_mul, Nat.zero_add] at this
            have hj64 : (j : Int) < 64 := by omega
            have hltI : (j : Int) < (N : Int) := by omega
            have hOn := (hOj.setRow_same (cs := u8s 64 (fun q => if q = j then cf (x k) j else if q < j then cf (x k) q else 0))).cast (cs' := u8s 64 (fun q => if q < j + 1 then cf (x k) q else 0)) (u8s_ext fun q _ => by
              by_cases e : q = j
              · subst e; rw [if_pos rfl, if_pos (by omega)]
              · rw [if_neg e]
                by_cases e2 : q < j
                · rw [if_pos e2, if_pos (by omega)]
                · rw [if_neg e2, if_neg (by omega)])
            have hgn := grownK_trans hgj (setRowK_grown wj gO (u8s 64 (fun q => if q = j then cf (x k) j else if q < j then cf (x k) q else 0)))
            clear hNj hgj
            go_wp2_with ((with_reducible refine wpl_guard ?_); first | (refine wpl_store_u8 rfl 5 _ _ rfl gO j rfl (cf (x k) j) rfl 64 _ _ hOj (by omega) sByte ?_))
            go_roundw
            case rel => exact ⟨j + 1, by omega, by go_num, hOn, hgn⟩
            case measure => simp [intOf] <;> omega
          · obtain rfl : j = N := by omega
            have hO := hOj.cast (copy_done (hxL.out k))
            have hN := Lib.hid hNj
            replace hR := Lib.hid (hR.out.kept hgj (.inr hRO))
            replace hT := Lib.hid (hT.out.kept hgj (.inr hTO))
            replace hM := hM.grown hgj (fun e => by injection e with e; omega)
            replace hZ := hZ.grown hgj (fun e => by injection e with e; omega)
            replace hSr := hSr.grown hgj (fun e => by injection e with e; exact hSO e)
            replace hb := hb.trans (grownK_below hgj (fun q e => by cases e; omega) hb.size)
            clear hOj hNj hgj
            go_upto_region 14 with (fail)
            go_upto_region 14 with (fail)
            refine gen_last (w := _) (by kernel_rfl) (by kernel_rfl) (by kernel_rfl) 10 (by kernel_rfl)
                (fun i => ([fun zv _ => zv = .slice (some ⟨gN, 0, none⟩) 1 cN, fun zv _ => zv = .int .i64 0, fun zv _ => zv = .int .i64 p, fun zv _ => zv = .slice (some ⟨gN, 0, none⟩) 1 cN, fun zv _ => zv = .int .i64 0, fun zv _ => zv = .pointer (some ⟨gN, 0 * 64, none⟩), fun zv _ => zv = .agg (u8s 64 (cf (x k))), fun zv _ => zv = .agg (u8s 64 (cf ms)), fun zv _ => zv = .agg (u8s 64 (cf (x (k + 1)))), fun zv _ => zv = .pointer (some ⟨gN, 0 * 64, none⟩), fun _ _ => True] : List (Value → World → Prop)).getD i (fun _ _ => True))
                (fun w' => Blk w' (w.heap.size) (u8s 64 (cf ms)) 23 ∧ True) ⟨hM.drew, trivial⟩ (fun w1 w2 h hb => ⟨h.1.keep hb, trivial⟩) ?_ ?_ ?_
            · intro i v w1 w2 h hb
              rcases i with _|_|_|_|_|_|_|_|_|_|_|i
              · exact h
              · exact h
              · exact h
              · exact h
              · exact h
              · exact h
              · exact h
              · exact h
              · exact h
              · exact h
              · exact h
              · exact h
            · intro i o ho hiZ a w2 hBl hSx hrd hpar
              rcases i with _|_|_|_|_|_|_|_|_|_|_|i
              · obtain rfl := Option.some.inj ho
                refine .inl ⟨rfl, ?_⟩
                have e10 : a.eval (.tmp 10) = .slice (some ⟨gN, 0, none⟩) 1 cN := hpar 10 _ (by kernel_rfl) (by kernel_rfl)
                exact wpv_of (wp_move _ _ rfl e10) (fun _ _ => rfl)
              · obtain rfl := Option.some.inj ho
                refine .inl ⟨rfl, ?_⟩
                have e14 : a.eval (.tmp 14) = .int .i64 0 := hpar 14 _ (by kernel_rfl) (by kernel_rfl)
                exact wpv_of (wp_move _ _ rfl e14) (fun _ _ => rfl)
              · obtain rfl := Option.some.inj ho
                refine .inl ⟨rfl, ?_⟩
                have e0 : a.eval (.tmp 0) = .int .i64 p := hpar 0 _ (by kernel_rfl) (by kernel_rfl)
                exact wpv_of (wp_move _ _ rfl e0) (fun _ _ => rfl)
              · obtain rfl := Option.some.inj ho
                refine .inl ⟨rfl, ?_⟩
                have e10 : a.eval (.tmp 10) = .slice (some ⟨gN, 0, none⟩) 1 cN := hpar 10 _ (by kernel_rfl) (by kernel_rfl)
                exact wpv_of (wp_move _ _ rfl e10) (fun _ _ => rfl)
              · obtain rfl := Option.some.inj ho
                refine .inl ⟨rfl, ?_⟩
                have e14 : a.eval (.tmp 14) = .int .i64 0 := hpar 14 _ (by kernel_rfl) (by kernel_rfl)
                exact wpv_of (wp_move _ _ rfl e14) (fun _ _ => rfl)
              · obtain rfl := Option.some.inj ho
                refine .inl ⟨rfl, ?_⟩
                have e58 : a.eval (.tmp 58) = .slice (some ⟨gN, 0, none⟩) 1 cN := hrd 3 _ 58 rfl rfl (by kernel_rfl) (by kernel_rfl)
                have e59 : a.eval (.tmp 59) = .int .i64 0 := hrd 4 _ 59 rfl rfl (by kernel_rfl) (by kernel_rfl)
                exact wpv_of (wp_index_bs 29 23 64 _ _ rfl uPolysJ sPoly (by decide) gN 1 cN 0 .i64 e58 e59 (by decide)) (fun _ _ => rfl)
              · obtain rfl := Option.some.inj ho
                refine .inl ⟨rfl, ?_⟩
                have e60 : a.eval (.tmp 60) = .pointer (some ⟨gN, 0 * 64, none⟩) := hrd 5 _ 60 rfl rfl (by kernel_rfl) (by kernel_rfl)
                exact wpv_of (wp_load_bs 23 _ rfl 64 gN (0 * 64) e60 _ ((hN.out.below hBl).cells (by decide) 0 (by decide)) _ uPoly sPoly) (fun _ _ => rfl)
              · obtain rfl := Option.some.inj ho
                refine .inl ⟨rfl, ?_⟩
                exact wpv_of (wp_loadB 23 _ rfl _ (hpar 5 (.pointer (some ⟨w.heap.size, 0, none⟩)) (by kernel_rfl) (by kernel_rfl)) _ _ hSx.1 _ _ uPoly sPoly) (fun _ _ => rfl)
              · obtain rfl := Option.some.inj ho
                refine .inl ⟨rfl, ?_⟩
                have e57 : a.eval (.tmp 57) = .int .i64 p := hrd 2 _ 57 rfl rfl (by kernel_rfl) (by kernel_rfl)
                have e61 : a.eval (.tmp 61) = .agg (u8s 64 (cf (x k))) := hrd 6 _ 61 rfl rfl (by kernel_rfl) (by kernel_rfl)
                have e62 : a.eval (.tmp 62) = .agg (u8s 64 (cf ms)) := hrd 7 _ 62 rfl rfl (by kernel_rfl) (by kernel_rfl)
                exact wpv_call 61 [.tmp 57, .tmp 61, .tmp 62] _ rfl [.int .i64 p, .agg (u8s 64 (cf (x k))), .agg (u8s 64 (cf ms))] (by simp only [List.map_cons, List.map_nil, e57, e61, e62]) Try.call61 ((hstp.out k w2).mono fun _ _ h => ⟨_, h.1, rfl, h.2⟩)
              · obtain rfl := Option.some.inj ho
                refine .inl ⟨rfl, ?_⟩
                have e55 : a.eval (.tmp 55) = .slice (some ⟨gN, 0, none⟩) 1 cN := hrd 0 _ 55 rfl rfl (by kernel_rfl) (by kernel_rfl)
                have e56 : a.eval (.tmp 56) = .int .i64 0 := hrd 1 _ 56 rfl rfl (by kernel_rfl) (by kernel_rfl)
                exact wpv_of (wp_index_bs 29 23 64 _ _ rfl uPolysJ sPoly (by decide) gN 1 cN 0 .i64 e55 e56 (by decide)) (fun _ _ => rfl)
              · obtain rfl := Option.some.inj ho
                exact absurd rfl hiZ
              · simp at ho
            intro oZ hoZ vals xC hBx hSx hc0
            obtain rfl := Option.some.inj hoZ
            clear hoZ
            have e0 : vals 0 = .slice (some ⟨gN, 0, none⟩) 1 cN := hc0 0 (by simp) (by decide)
            have e1 : vals 1 = .int .i64 0 := hc0 1 (by simp) (by decide)
            have e2 : vals 2 = .int .i64 p := hc0 2 (by simp) (by decide)
            have e3 : vals 3 = .slice (some ⟨gN, 0, none⟩) 1 cN := hc0 3 (by simp) (by decide)
            have e4 : vals 4 = .int .i64 0 := hc0 4 (by simp) (by decide)
            have e5 : vals 5 = .pointer (some ⟨gN, 0 * 64, none⟩) := hc0 5 (by simp) (by decide)
            have e6 : vals 6 = .agg (u8s 64 (cf (x k))) := hc0 6 (by simp) (by decide)
            have e7 : vals 7 = .agg (u8s 64 (cf ms)) := hc0 7 (by simp) (by decide)
            have e8 : vals 8 = .agg (u8s 64 (cf (x (k + 1)))) := hc0 8 (by simp) (by decide)
            have e9 : vals 9 = .pointer (some ⟨gN, 0 * 64, none⟩) := hc0 9 (by simp) (by decide)
            refine ⟨rfl, ?_⟩
            simp only [List.length_cons, List.length_nil, Nat.zero_add, Nat.reduceAdd, List.replicate, seenAll, Bool.false_eq_true, if_false, putAll, if_true, Act.put, List.setIfInBounds_toArray, List.set_cons_zero, List.set_cons_succ, e0, e1, e2, e3, e4, e5, e6, e7, e8, e9]
            replace hO := hO.keep hBx
            replace hSr := hSr.keep hBx
            replace hZ := hZ.keep hBx
            replace hM := hSx.1
            replace hb := below_step hb hBx
            clear hc0 hSx e0 e1 e2 e3 e4 e5 e6 e7 e8 e9
            have hR2 := Lib.hid (hR.out.below hBx)
            have hT2 := Lib.hid (hT.out.below hBx)
            have hN2 := hN.out.below hBx
            clear hR hT hN hBx
            refine wp_store_b64 23 _ _ rfl gN 0 rfl (x (k + 1)) rfl (w.heap.size + 2) 1 cN _ 23 hN2 (by decide) sPoly ?_
            intro w7 hN7 hg7
            try simp only [Act.put, List.setIfInBounds_toArray, List.set_cons_zero, List.set_cons_succ]
            have hN8 := Lib.hid (hN7.ext (by decide) (M' := fun _ => x (k + 1)) fun i hi => if_pos (by omega))
            have hR8 := Lib.hid (hR2.out.kept hg7 (.inr hRN))
            have hT8 := Lib.hid (hT2.out.kept hg7 (.inr hTN))
            have hM8 := hM.grown hg7 (fun e => by injection e with e; omega)
            have hZ8 := hZ.grown hg7 (fun e => by injection e with e; omega)
            have hO8 := hO.grown hg7 (fun e => by injection e with e; omega)
            have hS8 := hSr.grown hg7 (fun e => by injection e with e; omega)
            have hb8 := hb.trans (grownK_below hg7 (fun q e => by cases e; omega) hb.size)
            clear hN7 hg7 hR2 hT2 hN2 hM hZ hO hSr hb
            go_wp2_with fail
            go_roundw
            case rel => exact ⟨1, by omega, by go_num, hO8, hS8, hN8, hR8, hT8, hM8, hZ8, hb8⟩
            case measure => simp [intOf]
      | 1, _ =>
        rw [if_neg (by decide)] at hO
        have hS3 := (hSr.setRow_same (cs := u8s 64 (fun j => if j = k then 1 else (fun _ => (0 : Int)) j))).cast (onek_set k)
        have hsg := setRowK_grown wq gS (u8s 64 (fun j => if j = k then 1 else (fun _ => (0 : Int)) j))
        have hO3 := hO.setRow_other (g := gS) (cs := u8s 64 (fun j => if j = k then 1 else (fun _ => (0 : Int)) j)) (Ne.symm hSO)
        have hM3 := hM.setRow_other (g := gS) (cs := u8s 64 (fun j => if j = k then 1 else (fun _ => (0 : Int)) j)) (by omega)
        have hZ3 := hZ.setRow_other (g := gS) (cs := u8s 64 (fun j => if j = k then 1 else (fun _ => (0 : Int)) j)) (by omega)
        have hN3 := Lib.hid (hN.out.kept hsg (.inr (by simp only [Value.ownBlock]; intro e; injection e with e; exact hNS e)))
        have hR3 := Lib.hid (hR.out.kept hsg (.inr hRS))
        have hT3 := Lib.hid (hT.out.kept hsg (.inr hTS))
        have hb3 := below_setRow hb (g := gS) (by omega) (u8s 64 (fun j => if j = k then 1 else (fun _ => (0 : Int)) j))
        have hk64 : (k : Int) < 64 := by omega
        clear hO hM hZ hN hR hT hb hsg
        go_wp2_with ((with_reducible refine wpl_guard ?_); first | (refine wpl_store_u8 rfl 5 _ _ rfl gS k rfl 1 rfl 64 _ _ hSr (by omega) sByte ?_))
        clear hSr
        generalize World.setRow wq gS _ = w1 at *
        go_loopw [16] (fun iv wr => ∃ ix : Nat, ix ≤ k ∧ iv = .int .i64 (ix : Int) ∧ Blk wr gO (u8s 64 (cf (rv ix))) 23 ∧ Blk wr gS (u8s 64 (cf (ro ix))) 23 ∧ Hid (BsL 23 64 wr (w.heap.size + 2) (.slice (some ⟨gN, 0, none⟩) 1 cN) 1 (fun _ => x (k + 1))) ∧ Hid (BsL 23 64 wr (w.heap.size + 2) (.slice oR k cR) k Kf) ∧ Hid (BsL 23 64 wr (w.heap.size + 2) (.slice oT k cT) k Tf) ∧ Blk wr w.heap.size (u8s 64 (cf ms)) 23 ∧ Blk wr (w.heap.size + 1) (u8s 64 fun _ => 0) 23 ∧ Below w.heap.size w wr) (fun iv _ => k - (intOf iv).toNat)
        case atStart => exact ⟨0, by omega, rfl, by rw [hrv0.out]; exact hO3, by rw [hro0.out]; exact hS3, hN3, hR3, hT3, hM3, hZ3, hb3⟩
        case round =>
          clear hO3 hS3 hN3 hR3 hT3 hM3 hZ3 hb3
          rename World => wp
          obtain ⟨ix, hix, rfl, hW, hU, hN, hR, hT, hM, hZ, hb⟩ := hrel
          by_cases hlt : ix < k
          · skip
            obtain ⟨gR, rfl, _⟩ := hR.out.slc (by omega)
            obtain ⟨gT, rfl, _⟩ := hT.out.slc (by omega)
            have hKp := (hS.out.st.po ix hlt)
            have hKn := (hS.out.len ix hlt)
            have hK1 := hS.out.one ix hlt
            have hKl := List.length_pos_iff.2 hKn.1
            obtain ⟨q, hq⟩ : ∃ q, (Kf ix).length - 1 = q := ⟨_, rfl⟩
            have hqI : (((Kf ix).length : Nat) : Int) - 1 = (q : Int) := by omega
            have hq64 : q < 64 := by have := hKn.2; omega
            have hPk : P64 p (Kf ix) := ⟨hpH.out, hKp.1, by have := hKn.2; omega⟩
            have hdgK := Lib.hid (fun w => by have := l01Deg_list p (Kf ix) w hPk; rw [hqI] at this; exact this)
            have hRi := hrP2.out ix hix
            obtain ⟨A, hA⟩ : ∃ A, cf (rv ix) q = A := ⟨_, rfl⟩
            have hA0 : 0 ≤ A := hA ▸ (hRi.pv.md _).1
            have hA6 : A ≤ 6 := by have := (hRi.pv.md q).2; omega
            have hs1 := hst1.out ix
            have hs2 := hst2.out ix
            rw [hq, hA] at hs1 hs2
            rw [hq] at hK1
            rw [hK1, hinv1.out, Int.mul_one] at hs1 hs2
            have hPv : P64 p (rv ix) := ⟨hpH.out, hRi.pv, by have := hrle2.out ix hix; omega⟩
            have hPo : P64 p (ro ix) := ⟨hpH.out, hRi.po, by have := hRi.len; omega⟩
            have hPt : P64 p (Tf ix) := ⟨hpH.out, hKp.2.1, by have := hKp.2.2.1; omega⟩
            have hcV := Lib.hid (fun w => (by have := l01Add_list (rv ix) (Kf ix) p (-A) w hPv hPk (by omega) (by omega); rw [← hs1] at this; exact this : Calls Try.prog 42 #[.int .i64 p, .agg (u8s 64 (cf (rv ix))), .agg (u8s 64 (cf (Kf ix))), .int .i64 (-A)] w fun e w' => e = .returned (.agg (u8s 64 (cf (rv (ix + 1))))) ∧ Below w.heap.size w w'))
            have hcO := Lib.hid (fun w => (by have := l01Add_list (ro ix) (Tf ix) p (-A) w hPo hPt (by omega) (by omega); rw [← hs2] at this; exact this : Calls Try.prog 42 #[.int .i64 p, .agg (u8s 64 (cf (ro ix))), .agg (u8s 64 (cf (Tf ix))), .int .i64 (-A)] w fun e w' => e = .returned (.agg (u8s 64 (cf (ro (ix + 1))))) ∧ Below w.heap.size w w'))
            have hAq := Lib.hid hA
            have hsk := Lib.hid (fun (h : A = 0) => (⟨by rw [hs1, h]; exact addp_none (by omega) hRi.pv _ _ (by decide), by rw [hs2, h]; exact addp_none (by omega) hRi.po _ _ (by decide)⟩ : rv (ix + 1) = rv ix ∧ ro (ix + 1) = ro ix))
            have hcR := Lib.hid (hR.out.cells (by decide) ix hlt)
            clear hs1 hs2 hKp hKn hRi hA hq hPk hPv hPo hPt hK1 hKl hqI
            go_wp2_with ((with_reducible refine wpl_guard ?_); first | (refine wpl_load_mid rfl 23 _ rfl gR (ix * 64) rfl 64 _ _ hcR.out uPoly sPoly ?_))
            refine (hdgK.out _).mono ?_
            rintro e y1 ⟨rfl, hn⟩
            replace hW := hW.keep hn
            replace hU := hU.keep hn
            replace hM := hM.keep hn
            replace hZ := hZ.keep hn
            replace hR := Lib.hid (hR.out.below hn)
            replace hT := Lib.hid (hT.out.below hn)
            replace hN := Lib.hid (hN.out.below hn)
            replace hb := below_step hb hn
            clear hn hcR
            have c0 : y1.cell? ⟨gO, q, none⟩ = some (.int .u8 A) := by rw [hW.cell, u8s_get _ hq64, hAq.out]
            have hq64I : (q : Int) < 64 := by omega
            by_cases hAz : A = 0
            · have hz0 : (A == 0) = true := beq_iff_eq.2 hAz
              have hz1 : (A != 0) = false := by rw [hAz]; rfl
              obtain ⟨hk1, hk2⟩ := hsk.out hAz
              have hW2 := hW.cast (cs' := u8s 64 (cf (rv (ix + 1)))) (by rw [hk1])
              have hU2 := hU.cast (cs' := u8s 64 (cf (ro (ix + 1)))) (by rw [hk2])
              clear hk1 hk2 hW hU hAz
              go_wp2_with fail
              go_roundw
              case rel => exact ⟨ix + 1, by omega, by go_num, hW2, hU2, hN, hR, hT, hM, hZ, hb⟩
              case measure => simp [intOf] <;> omega
            · have hz1 : (A != 0) = true := by rw [bne_iff_ne]; exact hAz
              clear hAz
              go_upto_region 22 with (fail)
              go_upto_region 22 with (fail)
              refine gen_last (w := _) (by kernel_rfl) (by kernel_rfl) (by kernel_rfl) 8 (by kernel_rfl)
                  (fun i => ([fun zv _ => zv = .int .i64 p, fun zv _ => zv = .agg (u8s 64 (cf (rv ix))), fun zv _ => zv = .slice (some ⟨gR, 0, none⟩) k cR, fun zv _ => zv = .int .i64 ((ix : Nat) : Int), fun zv _ => zv = .pointer (some ⟨gR, ix * 64, none⟩), fun zv _ => zv = .agg (u8s 64 (cf (Kf ix))), fun zv _ => zv = .int .i64 (-A), fun zv _ => zv = .agg (u8s 64 (cf (rv (ix + 1)))), fun _ _ => True] : List (Value → World → Prop)).getD i (fun _ _ => True))
                  (fun w' => Blk w' (gO) (u8s 64 (cf (rv ix))) 23 ∧ True) ⟨hW.drew, trivial⟩ (fun w1 w2 h hb => ⟨h.1.keep hb, trivial⟩) ?_ ?_ ?_
              · intro i v w1 w2 h hb
                rcases i with _|_|_|_|_|_|_|_|_|i
                · exact h
                · exact h
                · exact h
                · exact h
                · exact h
                · exact h
                · exact h
                · exact h
                · exact h
                · exact h
              · intro i o ho hiZ a w2 hBl hSx hrd hpar
                rcases i with _|_|_|_|_|_|_|_|_|i
                · obtain rfl := Option.some.inj ho
                  refine .inl ⟨rfl, ?_⟩
                  have e0 : a.eval (.tmp 0) = .int .i64 p := hpar 0 _ (by kernel_rfl) (by kernel_rfl)
                  exact wpv_of (wp_move _ _ rfl e0) (fun _ _ => rfl)
                · obtain rfl := Option.some.inj ho
                  refine .inl ⟨rfl, ?_⟩
                  exact wpv_of (wp_loadB 23 _ rfl _ (hpar 12 (.pointer (some ⟨gO, 0, none⟩)) (by kernel_rfl) (by kernel_rfl)) _ _ hSx.1 _ _ uPoly sPoly) (fun _ _ => rfl)
                · obtain rfl := Option.some.inj ho
                  refine .inl ⟨rfl, ?_⟩
                  have e8 : a.eval (.tmp 8) = .slice (some ⟨gR, 0, none⟩) k cR := hpar 8 _ (by kernel_rfl) (by kernel_rfl)
                  exact wpv_of (wp_move _ _ rfl e8) (fun _ _ => rfl)
                · obtain rfl := Option.some.inj ho
                  refine .inl ⟨rfl, ?_⟩
                  have e16 : a.eval (.tmp 16) = .int .i64 ((ix : Nat) : Int) := hpar 16 _ (by kernel_rfl) (by kernel_rfl)
                  exact wpv_of (wp_move _ _ rfl e16) (fun _ _ => rfl)
                · obtain rfl := Option.some.inj ho
                  refine .inl ⟨rfl, ?_⟩
                  have e89 : a.eval (.tmp 89) = .slice (some ⟨gR, 0, none⟩) k cR := hrd 2 _ 89 rfl rfl (by kernel_rfl) (by kernel_rfl)
                  have e90 : a.eval (.tmp 90) = .int .i64 ((ix : Nat) : Int) := hrd 3 _ 90 rfl rfl (by kernel_rfl) (by kernel_rfl)
                  exact wpv_of (wp_index_bs 29 23 64 _ _ rfl uPolysJ sPoly (by decide) gR k cR ix .i64 e89 e90 hlt) (fun _ _ => rfl)
                · obtain rfl := Option.some.inj ho
                  refine .inl ⟨rfl, ?_⟩
                  have e91 : a.eval (.tmp 91) = .pointer (some ⟨gR, ix * 64, none⟩) := hrd 4 _ 91 rfl rfl (by kernel_rfl) (by kernel_rfl)
                  exact wpv_of (wp_load_bs 23 _ rfl 64 gR (ix * 64) e91 _ ((hR.out.below hBl).cells (by decide) ix hlt) _ uPoly sPoly) (fun _ _ => rfl)
                · obtain rfl := Option.some.inj ho
                  refine .inl ⟨rfl, ?_⟩
                  have e18 : a.eval (.tmp 18) = .int .i64 (-A) := hpar 18 _ (by kernel_rfl) (by kernel_rfl)
                  exact wpv_of (wp_move _ _ rfl e18) (fun _ _ => rfl)
                · obtain rfl := Option.some.inj ho
                  refine .inl ⟨rfl, ?_⟩
                  have e87 : a.eval (.tmp 87) = .int .i64 p := hrd 0 _ 87 rfl rfl (by kernel_rfl) (by kernel_rfl)
                  have e88 : a.eval (.tmp 88) = .agg (u8s 64 (cf (rv ix))) := hrd 1 _ 88 rfl rfl (by kernel_rfl) (by kernel_rfl)
                  have e92 : a.eval (.tmp 92) = .agg (u8s 64 (cf (Kf ix))) := hrd 5 _ 92 rfl rfl (by kernel_rfl) (by kernel_rfl)
                  have e93 : a.eval (.tmp 93) = .int .i64 (-A) := hrd 6 _ 93 rfl rfl (by kernel_rfl) (by kernel_rfl)
                  exact wpv_call 42 [.tmp 87, .tmp 88, .tmp 92, .tmp 93] _ rfl [.int .i64 p, .agg (u8s 64 (cf (rv ix))), .agg (u8s 64 (cf (Kf ix))), .int .i64 (-A)] (by simp only [List.map_cons, List.map_nil, e87, e88, e92, e93]) Try.call42 ((hcV.out w2).mono fun _ _ h => ⟨_, h.1, rfl, h.2⟩)
                · obtain rfl := Option.some.inj ho
                  exact absurd rfl hiZ
                · simp at ho
              intro oZ hoZ vals xE hBx hSx hc0
              obtain rfl := Option.some.inj hoZ
              clear hoZ
              have e0 : vals 0 = .int .i64 p := hc0 0 (by simp) (by decide)
              have e1 : vals 1 = .agg (u8s 64 (cf (rv ix))) := hc0 1 (by simp) (by decide)
              have e2 : vals 2 = .slice (some ⟨gR, 0, none⟩) k cR := hc0 2 (by simp) (by decide)
              have e3 : vals 3 = .int .i64 ((ix : Nat) : Int) := hc0 3 (by simp) (by decide)
              have e4 : vals 4 = .pointer (some ⟨gR, ix * 64, none⟩) := hc0 4 (by simp) (by decide)
              have e5 : vals 5 = .agg (u8s 64 (cf (Kf ix))) := hc0 5 (by simp) (by decide)
              have e6 : vals 6 = .int .i64 (-A) := hc0 6 (by simp) (by decide)
              have e7 : vals 7 = .agg (u8s 64 (cf (rv (ix + 1)))) := hc0 7 (by simp) (by decide)
              refine ⟨rfl, ?_⟩
              simp only [List.length_cons, List.length_nil, Nat.zero_add, Nat.reduceAdd, List.replicate, seenAll, Bool.false_eq_true, if_false, putAll, if_true, Act.put, List.setIfInBounds_toArray, List.set_cons_zero, List.set_cons_succ, e0, e1, e2, e3, e4, e5, e6, e7]
              replace hU := hU.keep hBx
              replace hM := hM.keep hBx
              replace hZ := hZ.keep hBx
              replace hW := hSx.1
              replace hb := below_step hb hBx
              clear hc0 hSx e0 e1 e2 e3 e4 e5 e6 e7
              have hR2 := Lib.hid (hR.out.below hBx)
              have hT2 := Lib.hid (hT.out.below hBx)
              have hN2 := Lib.hid (hN.out.below hBx)
              clear hR hT hN hBx
              refine wp_store_arr 23 _ _ rfl gO rfl (u8s 64 (cf (rv (ix + 1)))) rfl (u8s 64 (cf (rv ix))) _ hW sPoly (by simp only [u8s_size]) (u8s_oneCell _ _) ?_
              have hsg := setRowK_grown xE gO (u8s 64 (cf (rv (ix + 1))))
              have hO3 := hW.setRow_same (cs := u8s 64 (cf (rv (ix + 1))))
              have hP3 := hU.setRow_other (g := gO) (cs := u8s 64 (cf (rv (ix + 1)))) (by omega)
              have hM3 := hM.setRow_other (g := gO) (cs := u8s 64 (cf (rv (ix + 1)))) (by omega)
              have hZ3 := hZ.setRow_other (g := gO) (cs := u8s 64 (cf (rv (ix + 1)))) (by omega)
              have hR3 := Lib.hid (hR2.out.kept hsg (.inr hRO))
              have hT3 := Lib.hid (hT2.out.kept hsg (.inr hTO))
              have hN3 := Lib.hid (hN2.out.kept hsg (.inr (by simp only [Value.ownBlock]; intro e; injection e with e; exact hNO e)))
              have hb3 := below_setRow hb (g := gO) (by omega) (u8s 64 (cf (rv (ix + 1))))
              clear hW hU hM hZ hR2 hT2 hN2 hb hsg
              generalize World.setRow xE gO (u8s 64 (cf (rv (ix + 1)))) = vE at *
              have hW := hO3
              have hU := hP3
              clear hO3 hP3
              have hM := hM3
              have hZ := hZ3
              have hR := hR3
              have hT := hT3
              have hN := hN3
              have hb := hb3
              clear hM3 hZ3 hR3 hT3 hN3 hb3
              go_upto_region 23 with (fail)
              go_upto_region 23 with (fail)
              refine gen_last (w := _) (by kernel_rfl) (by kernel_rfl) (by kernel_rfl) 8 (by kernel_rfl)
                  (fun i => ([fun zv _ => zv = .int .i64 p, fun zv _ => zv = .agg (u8s 64 (cf (ro ix))), fun zv _ => zv = .slice (some ⟨gT, 0, none⟩) k cT, fun zv _ => zv = .int .i64 ((ix : Nat) : Int), fun zv _ => zv = .pointer (some ⟨gT, ix * 64, none⟩), fun zv _ => zv = .agg (u8s 64 (cf (Tf ix))), fun zv _ => zv = .int .i64 (-A), fun zv _ => zv = .agg (u8s 64 (cf (ro (ix + 1)))), fun _ _ => True] : List (Value → World → Prop)).getD i (fun _ _ => True))
                  (fun w' => Blk w' (gS) (u8s 64 (cf (ro ix))) 23 ∧ True) ⟨hU.drew, trivial⟩ (fun w1 w2 h hb => ⟨h.1.keep hb, trivial⟩) ?_ ?_ ?_
              · intro i v w1 w2 h hb
                rcases i with _|_|_|_|_|_|_|_|_|i
                · exact h
                · exact h
                · exact h
                · exact h
                · exact h
                · exact h
                · exact h
                · exact h
                · exact h
                · exact h
              · intro i o ho hiZ a w2 hBl hSx hrd hpar
                rcases i with _|_|_|_|_|_|_|_|_|i
                · obtain rfl := Option.some.inj ho
                  refine .inl ⟨rfl, ?_⟩
                  have e0 : a.eval (.tmp 0) = .int .i64 p := hpar 0 _ (by kernel_rfl) (by kernel_rfl)
                  exact wpv_of (wp_move _ _ rfl e0) (fun _ _ => rfl)
                · obtain rfl := Option.some.inj ho
                  refine .inl ⟨rfl, ?_⟩
                  exact wpv_of (wp_loadB 23 _ rfl _ (hpar 13 (.pointer (some ⟨gS, 0, none⟩)) (by kernel_rfl) (by kernel_rfl)) _ _ hSx.1 _ _ uPoly sPoly) (fun _ _ => rfl)
                · obtain rfl := Option.some.inj ho
                  refine .inl ⟨rfl, ?_⟩
                  have e9 : a.eval (.tmp 9) = .slice (some ⟨gT, 0, none⟩) k cT := hpar 9 _ (by kernel_rfl) (by kernel_rfl)
                  exact wpv_of (wp_move _ _ rfl e9) (fun _ _ => rfl)
                · obtain rfl := Option.some.inj ho
                  refine .inl ⟨rfl, ?_⟩
                  have e16 : a.eval (.tmp 16) = .int .i64 ((ix : Nat) : Int) := hpar 16 _ (by kernel_rfl) (by kernel_rfl)
                  exact wpv_of (wp_move _ _ rfl e16) (fun _ _ => rfl)
                · obtain rfl := Option.some.inj ho
                  refine .inl ⟨rfl, ?_⟩
                  have e97 : a.eval (.tmp 97) = .slice (some ⟨gT, 0, none⟩) k cT := hrd 2 _ 97 rfl rfl (by kernel_rfl) (by kernel_rfl)
                  have e98 : a.eval (.tmp 98) = .int .i64 ((ix : Nat) : Int) := hrd 3 _ 98 rfl rfl (by kernel_rfl) (by kernel_rfl)
                  exact wpv_of (wp_index_bs 29 23 64 _ _ rfl uPolysJ sPoly (by decide) gT k cT ix .i64 e97 e98 hlt) (fun _ _ => rfl)
                · obtain rfl := Option.some.inj ho
                  refine .inl ⟨rfl, ?_⟩
                  have e99 : a.eval (.tmp 99) = .pointer (some ⟨gT, ix * 64, none⟩) := hrd 4 _ 99 rfl rfl (by kernel_rfl) (by kernel_rfl)
                  exact wpv_of (wp_load_bs 23 _ rfl 64 gT (ix * 64) e99 _ ((hT.out.below hBl).cells (by decide) ix hlt) _ uPoly sPoly) (fun _ _ => rfl)
                · obtain rfl := Option.some.inj ho
                  refine .inl ⟨rfl, ?_⟩
                  have e18 : a.eval (.tmp 18) = .int .i64 (-A) := hpar 18 _ (by kernel_rfl) (by kernel_rfl)
                  exact wpv_of (wp_move _ _ rfl e18) (fun _ _ => rfl)
                · obtain rfl := Option.some.inj ho
                  refine .inl ⟨rfl, ?_⟩
                  have e95 : a.eval (.tmp 95) = .int .i64 p := hrd 0 _ 95 rfl rfl (by kernel_rfl) (by kernel_rfl)
                  have e96 : a.eval (.tmp 96) = .agg (u8s 64 (cf (ro ix))) := hrd 1 _ 96 rfl rfl (by kernel_rfl) (by kernel_rfl)
                  have e100 : a.eval (.tmp 100) = .agg (u8s 64 (cf (Tf ix))) := hrd 5 _ 100 rfl rfl (by kernel_rfl) (by kernel_rfl)
                  have e101 : a.eval (.tmp 101) = .int .i64 (-A) := hrd 6 _ 101 rfl rfl (by kernel_rfl) (by kernel_rfl)
                  exact wpv_call 42 [.tmp 95, .tmp 96, .tmp 100, .tmp 101] _ rfl [.int .i64 p, .agg (u8s 64 (cf (ro ix))), .agg (u8s 64 (cf (Tf ix))), .int .i64 (-A)] (by simp only [List.map_cons, List.map_nil, e95, e96, e100, e101]) Try.call42 ((hcO.out w2).mono fun _ _ h => ⟨_, h.1, rfl, h.2⟩)
                · obtain rfl := Option.some.inj ho
                  exact absurd rfl hiZ
                · simp at ho
              intro oZ hoZ vals xF hBx hSx hc0
              obtain rfl := Option.some.inj hoZ
              clear hoZ
              have e0 : vals 0 = .int .i64 p := hc0 0 (by simp) (by decide)
              have e1 : vals 1 = .agg (u8s 64 (cf (ro ix))) := hc0 1 (by simp) (by decide)
              have e2 : vals 2 = .slice (some ⟨gT, 0, none⟩) k cT := hc0 2 (by simp) (by decide)
              have e3 : vals 3 = .int .i64 ((ix : Nat) : Int) := hc0 3 (by simp) (by decide)
              have e4 : vals 4 = .pointer (some ⟨gT, ix * 64, none⟩) := hc0 4 (by simp) (by decide)
              have e5 : vals 5 = .agg (u8s 64 (cf (Tf ix))) := hc0 5 (by simp) (by decide)
              have e6 : vals 6 = .int .i64 (-A) := hc0 6 (by simp) (by decide)
              have e7 : vals 7 = .agg (u8s 64 (cf (ro (ix + 1)))) := hc0 7 (by simp) (by decide)
              refine ⟨rfl, ?_⟩
              simp only [List.length_cons, List.length_nil, Nat.zero_add, Nat.reduceAdd, List.replicate, seenAll, Bool.false_eq_true, if_false, putAll, if_true, Act.put, List.setIfInBounds_toArray, List.set_cons_zero, List.set_cons_succ, e0, e1, e2, e3, e4, e5, e6, e7]
              replace hW := hW.keep hBx
              replace hM := hM.keep hBx
              replace hZ := hZ.keep hBx
              replace hU := hSx.1
              replace hb := below_step hb hBx
              clear hc0 hSx e0 e1 e2 e3 e4 e5 e6 e7
              have hR2 := Lib.hid (hR.out.below hBx)
              have hT2 := Lib.hid (hT.out.below hBx)
              have hN2 := Lib.hid (hN.out.below hBx)
              clear hR hT hN hBx
              refine wp_store_arr 23 _ _ rfl gS rfl (u8s 64 (cf (ro (ix + 1)))) rfl (u8s 64 (cf (ro ix))) _ hU sPoly (by simp only [u8s_size]) (u8s_oneCell _ _) ?_
              have hsg := setRowK_grown xF gS (u8s 64 (cf (ro (ix + 1))))
              have hO3 := hU.setRow_same (cs := u8s 64 (cf (ro (ix + 1))))
              have hP3 := hW.setRow_other (g := gS) (cs := u8s 64 (cf (ro (ix + 1)))) (by omega)
              have hM3 := hM.setRow_other (g := gS) (cs := u8s 64 (cf (ro (ix + 1)))) (by omega)
              have hZ3 := hZ.setRow_other (g := gS) (cs := u8s 64 (cf (ro (ix + 1)))) (by omega)
              have hR3 := Lib.hid (hR2.out.kept hsg (.inr hRS))
              have hT3 := Lib.hid (hT2.out.kept hsg (.inr hTS))
              have hN3 := Lib.hid (hN2.out.kept hsg (.inr (by simp only [Value.ownBlock]; intro e; injection e with e; exact hNS e)))
              have hb3 := below_setRow hb (g := gS) (by omega) (u8s 64 (cf (ro (ix + 1))))
              clear hU hW hM hZ hR2 hT2 hN2 hb hsg
              generalize World.setRow xF gS (u8s 64 (cf (ro (ix + 1)))) = vF at *
              go_wp2_with fail
              go_roundw
              case rel => exact ⟨ix + 1, by omega, by go_num, hP3, hO3, hN3, hR3, hT3, hM3, hZ3, hb3⟩
              case measure => simp [intOf] <;> omega
          · obtain rfl : ix = k := by omega
            have hvP : P64 p (rv ix) := ⟨hpH.out, (hrP2.out ix (Nat.le_refl _)).pv, by have := hrle2.out ix (Nat.le_refl _); omega⟩
            have hdg := Lib.hid (fun w => l01Deg_list p (rv ix) w hvP)
            go_wp2_with ((with_reducible refine wpl_guard ?_); first | (refine wpl_load_arr rfl 23 _ rfl _ rfl _ _ hW _ _ uPoly sPoly ?_))
            refine (hdg.out _).mono ?_
            rintro e y1 ⟨rfl, hn⟩
            replace hW := hW.keep hn
            replace hU := hU.keep hn
            replace hM := hM.keep hn
            replace hZ := hZ.keep hn
            replace hR := Lib.hid (hR.out.below hn)
            replace hT := Lib.hid (hT.out.below hn)
            replace hN := Lib.hid (hN.out.below hn)
            replace hb := below_step hb hn
            clear hn hdg
            by_cases hvn : rv ix = []
            · have hce : ro ix = c := Known.same hpH.out hS.out.st.none hminH.out (hred.out.done hvn) hcH.out
              have hD : ((rv ix).length : Int) - 1 = -1 := by rw [hvn]; rfl
              rw [hD]
              clear hvn hD
              go_wp2_with ((with_reducible refine wpl_guard ?_); first | (refine wpl_load_arr rfl 23 _ rfl _ rfl _ _ hU _ _ uPoly sPoly ?_) | (refine wpl_store_arr rfl 23 _ _ rfl _ rfl _ rfl _ _ hZ sPoly (by simp only [u8s_size]) (u8s_oneCell _ _) ?_))
              exact bodyPost_ret (res_c rfl rfl (hZ.setRow_same (cs := u8s 64 (cf (ro ix)))) uPoly sPoly) rfl ⟨by rw [hce], below_setRow hb (by omega) _⟩
            · obtain ⟨q, hq⟩ : ∃ q, (rv ix).length - 1 = q := ⟨_, rfl⟩
              have hvl := List.length_pos_iff.2 hvn
              have hqI : ((rv ix).length : Int) - 1 = (q : Int) := by omega
              have hq64 : q < 64 := by have := hvP.le; omega
              obtain ⟨A, hA⟩ : ∃ A, cf (rv ix) q = A := ⟨_, rfl⟩
              have hA0 : 0 < A := by have := hvP.po.lead hvn; rwa [hq, hA] at this
              have hAp : A < p := hA ▸ (hvP.po.md _).2
              obtain ⟨Iv, hIv⟩ : ∃ Iv, invp p A = Iv := ⟨_, rfl⟩
              have hI := invp_spec hpH.out hA0 hAp
              rw [hIv] at hI
              have hI0 : 0 < Iv := hI.1
              have hI6 : Iv ≤ 6 := by have := hI.2.1; omega
              have hin := Lib.hid (fun w => by have := l01Inverse_any p A w hpH.out hA0 hAp; rw [hIv] at this; exact this)
              have hPo : P64 p (ro ix) := ⟨hpH.out, (hrP2.out ix (Nat.le_refl _)).po, by have := (hrP2.out ix (Nat.le_refl _)).len; omega⟩
              have hcA := Lib.hid (fun w => (by have := l01Add_list [] (rv ix) p Iv w (P64.nil hpH.out) hvP (by omega) (by omega); rw [cf_void] at this; exact this : Calls Try.prog 42 #[.int .i64 p, .agg (u8s 64 fun _ => 0), .agg (u8s 64 (cf (rv ix))), .int .i64 Iv] w fun e w' => e = .returned (.agg (u8s 64 (cf (scl p (rv ix) Iv)))) ∧ Below w.heap.size w w'))
              have hcB := Lib.hid (fun w => (by have := l01Add_list [] (ro ix) p Iv w (P64.nil hpH.out) hPo (by omega) (by omega); rw [cf_void] at this; exact this : Calls Try.prog 42 #[.int .i64 p, .agg (u8s 64 fun _ => 0), .agg (u8s 64 (cf (ro ix))), .int .i64 Iv] w fun e w' => e = .returned (.agg (u8s 64 (cf (scl p (ro ix) Iv)))) ∧ Below w.heap.size w w'))
              have hnext := hS.out.next hpH.out hred.out hvn (hrle2.out ix (Nat.le_refl _)) (c := Iv) (by rw [hq, hA, hIv])
              have hkn2 := hnext.le
              have hnextH := Lib.hid hnext
              have c0 : y1.cell? ⟨gO, q, none⟩ = some (.int .u8 A) := by rw [hW.cell, u8s_get _ hq64, hA]
              have hq64I : (q : Int) < 64 := by omega
              rw [hqI]
              clear hqI hvn hnext hPo hI hIv hA hAp hq hvl
              go_wp2_with fail
              refine (hin.out _).mono ?_
              rintro e y2 ⟨rfl, rfl⟩
              clear c0 hin
              go_wp2_with ((with_reducible refine wpl_guard ?_); first | (refine wpl_build_zero rfl 23 64 5 rfl _ uPoly sByte zPoly ?_) | (refine wpl_load_arr rfl 23 _ rfl _ rfl _ _ hW _ _ uPoly sPoly ?_))
              refine (hcA.out _).mono ?_
              rintro e y3 ⟨rfl, hn⟩
              replace hW := hW.keep hn
              replace hU := hU.keep hn
              replace hM := hM.keep hn
              replace hZ := hZ.keep hn
              replace hR := Lib.hid (hR.out.below hn)
              replace hT := Lib.hid (hT.out.below hn)
              replace hN := Lib.hid (hN.out.below hn)
              replace hb := below_step hb hn
              clear hn hW hcA
              obtain ⟨V, hVe⟩ : ∃ V, scl p (rv ix) Iv = V := ⟨_, rfl⟩
              obtain ⟨U, hUe⟩ : ∃ U, scl p (ro ix) Iv = U := ⟨_, rfl⟩
              rw [hVe, hUe] at hnextH
              rw [hUe] at hcB
              rw [hVe]
              have hn := below_new y3 (.cells (u8s 64 (cf V)) 23)
              have hnew := Lib.hid (arr_news y3 64 23 V)
              have hR2 := Lib.hid ((hR.out.ext (by decide) (M' := insF ix V Kf) fun i hi => (insF_lt hi).symm).below hn)
              have hT2 := Lib.hid (hT.out.below hn)
              have hN2 := Lib.hid (hN.out.below hn)
              have hU2 := hU.keep hn
              have hM2 := hM.keep hn
              have hZ2 := hZ.keep hn
              have hb2 := below_step hb hn
              have hTlt := Lib.hid (fun g e => (hT.out.lt g e).2)
              have hRlo := Lib.hid (fun g e => (hR.out.lt g e).1)
              have hTlo := Lib.hid (fun g e => (hT.out.lt g e).1)
              have hNlt : gN < y3.heap.size := (hN.out.lt gN rfl).2
              have hSlt : gS < y3.heap.size := hU.lt
              clear hn hR hT hN hU hM hZ hb
              go_upto_region 29 with ((with_reducible refine wpl_guard ?_); first | (refine wpl_buildSlice_arr rfl 29 23 64 _ rfl uPolysJ sPoly zPoly (by decide) (by decide) (cf V) rfl ?_) | ((at_builtin; refine wpl_append_farB rfl _ _ 29 rfl (w.heap.size + 2) 23 _ 64 64 uPolysJ iPolyJ (by simp [Value.cells, u8s_size]) (by decide) (by decide) _ ix _ rfl hR2.out ⟨y3.heap.size, 0, none⟩ rfl (u8s 64 (cf V)).toList (by rw [Array.length_toList, u8s_size]) (fun j u h => by rw [addr_add]; exact hnew.out j u h) (arr_ones 64 V) (by omega) (by simp only [size_alloc]; omega) ?_); intro vR2 y4 hown2 hg2 hfar2))
              have hR4 := Lib.hid (BsL.snoc (by decide) (insF_at ix V Kf) hown2)
              have hT4 := Lib.hid (hT2.out.kept hg2 (by
                cases h : (Value.slice oT ix cT).ownBlock with
                | none => exact .inl rfl
                | some g => exact .inr fun e => hap.out g e.symm h))
              have hN4 := Lib.hid (hN2.out.kept hg2 (.inr (Ne.symm hRN)))
              have hU4 := hU2.grown hg2 (Ne.symm hRS)
              have hM4 := hM2.grown hg2 (fun e => by have := hRlo.out _ e.symm; omega)
              have hZ4 := hZ2.grown hg2 (fun e => by have := hRlo.out _ e.symm; omega)
              have hb4 := hb2.trans (grownK_below hg2 (fun k e => by have := hRlo.out k e; omega) hb2.size)
              have hapA : Hid (∀ g, vR2.ownBlock = some g → (Value.slice oT ix cT).ownBlock = some g → False) := Lib.hid (fun g e f => by
                rcases hfar2 with h | h
                · rw [h] at e; exact hap.out g e f
                · rw [h] at e; injection e with e; have := hTlt.out _ f; simp only [size_alloc] at e; omega)
              have hRN4 : vR2.ownBlock ≠ some gN := fun e => by
                rcases hfar2 with h | h
                · rw [h] at e; exact hRN e
                · rw [h] at e; injection e with e; simp only [size_alloc] at e; omega
              have hRS4 : vR2.ownBlock ≠ some gS := fun e => by
                rcases hfar2 with h | h
                · rw [h] at e; exact hRS e
                · rw [h] at e; injection e with e; simp only [size_alloc] at e; omega
              obtain ⟨oR2, cR2, rfl⟩ := hR4.out.sl
              clear hR2 hT2 hN2 hU2 hM2 hZ2 hb2 hown2 hg2 hfar2 hRlo hTlt hNlt hSlt hap hRN hRS hRO hnew
              go_wp2_with ((with_reducible refine wpl_guard ?_); first | (refine wpl_build_zero rfl 23 64 5 rfl _ uPoly sByte zPoly ?_) | (refine wpl_load_arr rfl 23 _ rfl _ rfl _ _ hU4 _ _ uPoly sPoly ?_))
              refine (hcB.out _).mono ?_
              rintro e y5 ⟨rfl, hn⟩
              have hn5 := below_new y5 (.cells (u8s 64 (cf U)) 23)
              have hnew := Lib.hid (arr_news y5 64 23 U)
              have hTlt := Lib.hid (fun g e => ((hT4.out.below hn).lt g e).2)
              have hRlt := Lib.hid (fun g e => ((hR4.out.below hn).lt g e).2)
              have hNlt : gN < y5.heap.size := ((hN4.out.below hn).lt gN rfl).2
              have hR5 := Lib.hid ((hR4.out.below hn).below hn5)
              have hT5 := Lib.hid (((hT4.out.below hn).ext (by decide) (M' := insF ix U Tf) fun i hi => (insF_lt hi).symm).below hn5)
              have hN5 := Lib.hid ((hN4.out.below hn).below hn5)
              have hM5 := (hM4.keep hn).keep hn5
              have hZ5 := (hZ4.keep hn).keep hn5
              have hb5 := below_step (below_step hb4 hn) hn5
              clear hn hn5 hR4 hT4 hN4 hU4 hM4 hZ4 hb4
              go_upto_region 5 with ((with_reducible refine wpl_guard ?_); first | (refine wpl_buildSlice_arr rfl 29 23 64 _ rfl uPolysJ sPoly zPoly (by decide) (by decide) (cf U) rfl ?_) | ((at_builtin; refine wpl_append_farB rfl _ _ 29 rfl (w.heap.size + 2) 23 _ 64 64 uPolysJ iPolyJ (by simp [Value.cells, u8s_size]) (by decide) (by decide) _ ix _ rfl hT5.out ⟨y5.heap.size, 0, none⟩ rfl (u8s 64 (cf U)).toList (by rw [Array.length_toList, u8s_size]) (fun j u h => by rw [addr_add]; exact hnew.out j u h) (arr_ones 64 U) (by omega) (by simp only [size_alloc]; omega) ?_); intro vT2 y6 hown4 hg4 hfar4))
              have hT6 := Lib.hid (BsL.snoc (by decide) (insF_at ix U Tf) hown4)
              have hR6 := Lib.hid (hR5.out.kept hg4 (by
                cases h : (Value.slice oR2 (ix + 1) cR2).ownBlock with
                | none => exact .inl rfl
                | some g => exact .inr fun e => hapA.out g h e.symm))
              have hN6 := Lib.hid (hN5.out.kept hg4 (.inr (Ne.symm hTN)))
              have hM6 := hM5.grown hg4 (fun e => by have := hTlo.out _ e.symm; omega)
              have hZ6 := hZ5.grown hg4 (fun e => by have := hTlo.out _ e.symm; omega)
              have hb6 := hb5.trans (grownK_below hg4 (fun k e => by have := hTlo.out k e; omega) hb5.size)
              have hap6 : Hid (∀ g, (Value.slice oR2 (ix + 1) cR2).ownBlock = some g → vT2.ownBlock = some g → False) := Lib.hid (fun g e f => by
                rcases hfar4 with h | h
                · rw [h] at f; exact hapA.out g e f
                · rw [h] at f; injection f with f; have := hRlt.out _ e; simp only [size_alloc] at f; omega)
              have hTN6 : Hid (vT2.ownBlock ≠ some gN) := Lib.hid (fun e => by
                rcases hfar4 with h | h
                · rw [h] at e; exact hTN e
                · rw [h] at e; injection e with e; simp only [size_alloc] at e; omega)
              have hRN6 := Lib.hid hRN4
              clear hR5 hT5 hN5 hM5 hZ5 hb5 hown4 hg4 hfar4 hTlt hRlt hNlt hnew hRS4 hRN4
              go_wp2_with fail
              go_roundw
              case rel => exact ⟨ix + 1, _, _, by go_num, hnextH, hR6, hT6, hN6, hap6, hRN6, hTN6, hM6, hZ6, hb6⟩
              case measure => simp [intOf] <;> omega
end Go.Proofs.Ytionaenmjndncab

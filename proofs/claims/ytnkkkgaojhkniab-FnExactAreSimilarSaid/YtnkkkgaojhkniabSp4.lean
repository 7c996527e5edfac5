/- Walks: the reference's determinants of parts of a table. -/
import Derived.Test.YtnkkkgaojhkniabSp3
import Derived.Test.YtnkkkgaojhkniabInv9
set_option linter.unusedVariables false
set_option linter.unusedSimpArgs false
namespace Go.Proofs.Ytnkkkgaojhkniab
open Go.RowKit
theorem low_eqpL {p : Int} {N : Nat} {f : PS} (h : Ln p N f) : Eqp p (cf (low p N f)) f := fun i => by
  unfold low; rw [mkp_cf]; split
  · exact Int.emod_emod_of_dvd _ (Int.dvd_refl p)
  · rw [h i (by omega)]; exact Int.zero_emod p
/-- A determinant as a polynomial. -/
def minP (p : Int) (E : MxL) (R C : List Nat) : List Int := low p 8 (det (cfm E) R C)
section
variable {p : Int} {n : Nat} {E : MxL}
theorem minP_ok (hp : Pr p) (hn : n ≤ 6) (hE : ∀ i j, i < n → j < n → Po p (E i j) ∧ (E i j).length ≤ 2) {R C : List Nat} (hR : ∀ i ∈ R, i < n) (hC : ∀ i ∈ C, i < n) (hl : R.length ≤ 6) :
    Po p (minP p E R C) ∧ (minP p E R C).length ≤ R.length + 1 ∧ Eqp p (cf (minP p E R C)) (det (cfm E) R C) := by
  have hp2 := hp.pos
  have h1 := det_two (p := p) (a := cfm E) (S := (· < n)) (fun i j hi hj => (Ln.of_list p (E i j)).le (hE i j hi hj).2) R C hR hC
  have h2 := low_eqpL (h1.le (by omega : R.length + 1 ≤ 8))
  have h3 : Po p (minP p E R C) := low_Po (by omega) _ _
  exact ⟨h3, Ln.len h3 (h1.eqp h2), h2⟩
theorem minP_only (hp : Pr p) (hn : n ≤ 6) (hE : ∀ i j, i < n → j < n → Po p (E i j) ∧ (E i j).length ≤ 2) {R C : List Nat} (hR : ∀ i ∈ R, i < n) (hC : ∀ i ∈ C, i < n) (hl : R.length ≤ 6) {O : List Int} (hO : Po p O) (h : Eqp p (det (cfm E) R C) (cf O)) : O = minP p E R C := by
  obtain ⟨h1, _, h3⟩ := minP_ok hp hn hE hR hC hl
  exact hO.eq_of_eqp h1 (h.symm.trans h3.symm)
theorem minP_nil (hp : Pr p) (hn : n ≤ 6) (hE : ∀ i j, i < n → j < n → Po p (E i j) ∧ (E i j).length ≤ 2) {C : List Nat} (hC : ∀ i ∈ C, i < n) : [1] = minP p E [] C :=
  minP_only hp hn hE (fun i h => by cases h) hC (by simp) (one_Po hp.pos.1) (Eqp.of_eq (by rw [det_nil, cf_one]))
/-- What is summed up ahead of column j. -/
def MinI (p : Int) (E : MxL) (i : Nat) (R : List Nat) (n c j : Nat) (s : Int) (O : List Int) : Prop :=
  Eqp p (det (cfm E) (i :: R) (bits n c)) (padd (cf O) (psmul s (alt (fun x X => pmul (cf (E i x)) (det (cfm E) R (bitsA 0 j c ++ X))) (bitsA j (n - j) c))))
theorem MinI.start {i c : Nat} {R : List Nat} : MinI p E i R n c 0 1 [] := by
  unfold MinI
  rw [cf_nil_zero, pzero_padd, psmul_one]
  exact Eqp.refl _
theorem MinI.skip {i c j : Nat} {R : List Nat} {s : Int} {O : List Int} (h : MinI p E i R n c j s O) (hj : j < n) (hb : bt c j = false) : MinI p E i R n c (j + 1) s O := by
  unfold MinI at *
  rw [show n - j = (n - (j + 1)) + 1 by omega, bitsA_cons, hb, if_neg (by simp)] at h
  have e : bitsA 0 (j + 1) c = bitsA 0 j c := by
    rw [bitsA_split 0 (j + 1) j c (by omega), Nat.zero_add, show j + 1 - j = 0 + 1 by omega, bitsA_cons, hb, if_neg (by simp), bitsA_nil, List.append_nil]
  rw [e]; exact h
theorem MinI.step (hp : Pr p) (hn : n ≤ 6) {i c j : Nat} {R : List Nat} {s : Int} {O D : List Int} (h : MinI p E i R n c j s O) (hc : c < 2 ^ n) (hj : j < n) (hb : bt c j = true) (hD : Eqp p (cf D) (pmul (cf (E i j)) (det (cfm E) R (bits n (c - 2 ^ j))))) : MinI p E i R n c (j + 1) (-s) (addp p O D s) := by
  unfold MinI at *
  have e : bitsA 0 (j + 1) c = bitsA 0 j c ++ [j] := by
    rw [bitsA_split 0 (j + 1) j c (by omega), Nat.zero_add, show j + 1 - j = 0 + 1 by omega, bitsA_cons, hb, if_pos rfl, bitsA_nil]
  rw [show n - j = (n - (j + 1)) + 1 by omega, bitsA_cons, hb, if_pos rfl] at h
  rw [bits_less hn hc hj hb] at hD
  refine h.trans ?_
  refine Eqp.trans ?_ (Eqp.add (addp_eqp p O D s).symm (Eqp.refl _))
  refine Eqp.trans ?_ (Eqp.add (Eqp.add (Eqp.refl _) (Eqp.smul hD.symm)) (Eqp.refl _))
  refine Eqp.of_eq ?_
  rw [e]
  have e2 : (fun x X => pmul (cf (E i x)) (det (cfm E) R ((bitsA 0 j c ++ [j]) ++ X))) = (fun x X => pmul (cf (E i x)) (det (cfm E) R (bitsA 0 j c ++ j :: X))) := by
    funext x X; rw [List.append_assoc]; rfl
  rw [e2]
  show padd (cf O) (psmul s (psb (pmul (cf (E i j)) (det (cfm E) R (bitsA 0 j c ++ bitsA (j + 1) (n - (j + 1)) c))) (alt (fun x X => pmul (cf (E i x)) (det (cfm E) R (bitsA 0 j c ++ j :: X))) (bitsA (j + 1) (n - (j + 1)) c)))) = _
  funext m
  show cf O m + s * (_ + -1 * _) = cf O m + s * _ + -s * _
  rw [Int.mul_add, Int.neg_mul 1, Int.one_mul, Int.mul_neg, Int.neg_mul, Int.add_assoc]
theorem MinI.void (hp : Pr p) (hn : n ≤ 6) {i c j : Nat} {R : List Nat} {s : Int} {O : List Int} (h : MinI p E i R n c j s O) (hO : Po p O) (hc : c < 2 ^ n) (hj : j < n) (hb : bt c j = true) (hE : E i j = []) : MinI p E i R n c (j + 1) (-s) O := by
  have hp2 := hp.pos
  have h1 := h.step hp hn (D := []) hc hj hb (by rw [hE, cf_nil_zero, pzero_mul]; exact Eqp.refl _)
  have e : addp p O [] s = O := (addp_Po (by omega) _ _ _).ext hO fun m => by rw [addp_cf, cf_nil, Int.mul_zero, Int.add_zero, Int.emod_eq_of_lt (hO.md m).1 (hO.md m).2]
  rwa [e] at h1
theorem MinI.done {i c : Nat} {R : List Nat} {s : Int} {O : List Int} (h : MinI p E i R n c n s O) : Eqp p (det (cfm E) (i :: R) (bits n c)) (cf O) := by
  unfold MinI at h
  rw [Nat.sub_self, bitsA_nil] at h
  refine h.trans (Eqp.of_eq ?_)
  show padd (cf O) (psmul s pzero) = cf O
  rw [psmul_pzero, padd_pzero]
end
theorem bits_len (n m : Nat) : (bits n m).length ≤ n := by
  unfold bits bitsA
  refine Nat.le_trans (List.length_filter_le _ _) ?_
  rw [List.length_range']; exact Nat.le_refl n
set_option maxRecDepth 20000 in
set_option maxHeartbeats 8000000 in
theorem l05Minor_any (E : MxL) (p : Int) (n : Nat) (hp : Pr p) (hn : n ≤ 6) (hE : ∀ i j, i < n → j < n → Po p (E i j) ∧ (E i j).length ≤ 2) : ∀ (k rows cols : Nat) (v : Value) (w : World), rows < 2 ^ n → cols < 2 ^ n → (bits n rows).length = k → (bits n cols).length = k → TabS w v n E →
    Calls Try.prog 85 #[.int .i64 p, v, .int .i64 rows, .int .i64 cols] w fun e w' => e = .returned (.agg (u8s 64 (cf (minP p E (bits n rows) (bits n cols))))) ∧ Below w.heap.size w w' := by
  have hp2 := hp.pos
  have hpH := Lib.hid hp
  have hEH := Lib.hid hE
  have h64 : 2 ^ n ≤ 2 ^ 6 := Nat.pow_le_pow_right (by omega) hn
  clear hp hE
  intro k
  induction k with
  | zero =>
    intro rows cols v w hr hc hlr hlc hT
    have hr0 : rows = 0 := Classical.byContradiction fun h => by
      obtain ⟨i, h1, h2, h3⟩ := bits_pos hn hr h
      rw [bits_first hn hr h1 h2 h3] at hlr
      simp at hlr
    subst hr0
    have hval := Lib.hid (by rw [bits_zero]; exact minP_nil hpH.out hn hEH.out (fun i hi => bits_mem hi) : [1] = minP p E (bits n 0) (bits n cols))
    have hZ := Blk.new w (u8s 64 fun _ => 0) 25
    have hb0 := below_new w (.cells (u8s 64 fun _ => 0) 25)
    obtain ⟨g, c, Rl, rfl, _, _⟩ := hT
    simp only [Int.natCast_zero]
    go_enter Try.func85, Try.ntmps85
    go_wp2_with ((with_reducible refine wpl_guard ?_); first | (refine wpl_alloc_arr rfl 25 rfl _ zPoly ?_))
    refine (l01One_any _).mono ?_
    rintro e w1 ⟨rfl, hn1⟩
    replace hZ := hZ.keep hn1
    replace hb0 := below_step hb0 hn1
    clear hn1
    go_wp2_with ((with_reducible refine wpl_guard ?_); first | (refine wpl_store_arr rfl 25 _ _ rfl _ rfl _ rfl _ _ hZ sPoly (by simp only [u8s_size]) (u8s_oneCell _ _) ?_))
    exact bodyPost_ret (res_c rfl rfl (hZ.setRow_same (cs := u8s 64 (cf [1]))) uPoly sPoly) rfl ⟨by rw [hval.out], below_setRow hb0 (by omega) _⟩
  | succ k ih =>
    intro rows cols v w hr hc hlr hlc hT
    have ihH := Lib.hid ih
    clear ih
    have hr0 : rows ≠ 0 := fun h => by rw [h, bits_zero] at hlr; simp at hlr
    obtain ⟨i0, hi1, hi2, hi3⟩ := bits_pos hn hr hr0
    have hfst := Lib.hid (bits_first hn hr hi1 hi2 hi3)
    have hlr' := Lib.hid (by have := hlr; rw [hfst.out] at this; simpa using this : (bits n (rows - 2 ^ i0)).length = k)
    have hrle := Lib.hid (bt_le (by omega) (by omega) hi2)
    have hk6 : k + 1 ≤ 6 := by have := bits_len n rows; omega
    have hr0I : ((rows : Int) == 0) = false := by rw [beq_eq_false_iff_ne]; omega
    have hZ := Blk.new w (u8s 64 fun _ => 0) 25
    have hb0 := below_new w (.cells (u8s 64 fun _ => 0) 25)
    obtain ⟨g, c9, Rl, rfl, hTc, hTr⟩ := hT
    have hTcH := Lib.hid hTc
    have hTrH := Lib.hid hTr
    have hlcH := Lib.hid hlc
    have hi2H := Lib.hid hi2
    have hi3H := Lib.hid hi3
    have hrH := Lib.hid hr
    have hcH := Lib.hid hc
    have h64H := Lib.hid h64
    have hr64 : rows < 64 := by omega
    have hc64 : cols < 64 := by omega
    clear hTc hTr hlr hlc hi2 hi3 hr hc hr0 h64
    go_enter Try.func85, Try.ntmps85
    go_wp2_with ((with_reducible refine wpl_guard ?_); first | (refine wpl_alloc_arr rfl 25 rfl _ zPoly ?_))
    go_loopw [9] (fun iv wr => ∃ i : Nat, iv = .int .i64 (i : Int) ∧ i ≤ i0 ∧ Blk wr w.heap.size (u8s 64 fun _ => 0) 25 ∧ Below w.heap.size w wr) (fun iv _ => i0 - (intOf iv).toNat)
    case atStart => exact ⟨0, rfl, by omega, hZ, hb0⟩
    case round =>
      clear hZ hb0
      obtain ⟨i, rfl, hii, hZ, hb⟩ := hrel
      obtain ⟨q, hq⟩ : ∃ q, rows / 2 ^ i = q := ⟨_, rfl⟩
      have hq64 : q < 64 := by rw [← hq]; exact Nat.lt_of_le_of_lt (Nat.div_le_self _ _) hr64
      have hqH := Lib.hid hq
      obtain ⟨b, hb2⟩ : ∃ b, q % 2 = b := ⟨_, rfl⟩
      have hb2H := Lib.hid hb2
      clear hq hb2
      by_cases hlt : i < i0
      · have hbit : ((b : Int) == 0) = true := by
          have := hi3H.out i hlt
          unfold bt at this
          have h2 := of_decide_eq_false this
          rw [hqH.out, hb2H.out] at h2
          have h4 := hb2H.out
          have h3 : b = 0 := by omega
          rw [h3]; rfl
        go_wp2_with ((with_reducible refine wpl_guard ?_); first | (refine wpl_shr rfl _ _ _ _ rfl rows i rfl rfl (by omega) q hqH.out ?_) | (refine wpl_and1 rfl _ _ _ rfl q hq64 rfl b hb2H.out ?_))
        go_roundw
        case rel => exact ⟨i + 1, by go_num, by omega, hZ, hb⟩
        case measure => simp [intOf] <;> omega
      · obtain rfl : i0 = i := by omega
        have hbit : ((b : Int) == 0) = false := by
          have := hi2H.out
          unfold bt at this
          have h2 := of_decide_eq_true this
          rw [hqH.out, hb2H.out] at h2
          rw [h2]; rfl
        go_upto_region 6 with ((with_reducible refine wpl_guard ?_); first | (refine wpl_shr rfl _ _ _ _ rfl rows i0 rfl rfl (by omega) q hqH.out ?_) | (refine wpl_and1 rfl _ _ _ rfl q hq64 rfl b hb2H.out ?_))
        rename World => w0
        have hO := Blk.new w0 (u8s 64 fun _ => 0) 25
        have hnn := below_new w0 (.cells (u8s 64 fun _ => 0) 25)
        have hgZ := hZ.lt
        replace hZ := hZ.keep hnn
        replace hb := below_step hb hnn
        have hv0 := Lib.hid (u8s_ext fun j _ => (cf_nil j).symm : u8s 64 (fun _ => 0) = u8s 64 (cf []))
        clear hnn hbit hq64 hqH hb2H
        go_upto_region 7 with ((with_reducible refine wpl_guard ?_); first | (refine wpl_build_zero rfl 25 64 5 rfl _ uPoly sByte zPoly ?_) | (refine wpl_alloc_arr rfl 25 rfl _ zPoly ?_) | (refine wpl_store_new rfl 25 _ _ rfl _ rfl rfl _ rfl sPoly (by simp only [u8s_size]) (u8s_oneCell _ _) ?_))
        generalize World.alloc w0 (.cells (u8s 64 fun _ => 0) 25) = wa at *
        rw [hv0.out] at hO
        obtain ⟨gO, hgO⟩ : ∃ q, w0.heap.size = q := ⟨_, rfl⟩
        rw [hgO] at hO hgZ ⊢
        clear hgO hv0
        go_wp2_with fail
        go_loopw [11, 12] (fun vs vj wr => ∃ (j : Nat) (s : Int) (O : List Int), (s = 1 ∨ s = -1) ∧ vs = .int .i64 s ∧ vj = .int .i64 (j : Int) ∧ j ≤ n ∧ Blk wr gO (u8s 64 (cf O)) 25 ∧ Po p O ∧ O.length ≤ 8 ∧ Hid (MinI p E i0 (bits n (rows - 2 ^ i0)) n cols j s O) ∧ Blk wr w.heap.size (u8s 64 fun _ => 0) 25 ∧ Below w.heap.size w wr) (fun _ vj _ => n - (intOf vj).toNat)
        case atStart => exact ⟨0, 1, [], .inl rfl, rfl, rfl, by omega, hO, Po_nil (by omega), by simp, Lib.hid (by have := MinI.start (p := p) (E := E) (i := i0) (c := cols) (R := bits n (rows - 2 ^ i0)) (n := n); exact this), hZ, hb⟩
        case round =>
          clear hO hZ hb
          obtain ⟨j, s, O, hs, rfl, rfl, hj, hO, hPO, hOl, hI, hZ, hb⟩ := hrel
          have hs0 : -1 ≤ s ∧ s ≤ 1 := by omega
          obtain ⟨hs1, hs2⟩ := hs0
          have hsH := Lib.hid hs
          clear hs
          rename World => wr
          by_cases hjn : j < n
          · have hjI : (j : Int) < (n : Int) := by omega
            obtain ⟨q2, hq2⟩ : ∃ q, cols / 2 ^ j = q := ⟨_, rfl⟩
            have hq264 : q2 < 64 := by rw [← hq2]; exact Nat.lt_of_le_of_lt (Nat.div_le_self _ _) hc64
            obtain ⟨b2, hb2⟩ : ∃ b, q2 % 2 = b := ⟨_, rfl⟩
            have hq2H := Lib.hid hq2
            have hb2H := Lib.hid hb2
            have hbt : bt cols j = decide (b2 = 1) := by unfold bt; rw [hq2, hb2]
            have hbtH := Lib.hid hbt
            have hb2l : b2 < 2 := by rw [← hb2]; exact Nat.mod_lt _ (by decide)
            clear hq2 hb2 hbt
            by_cases hb20 : b2 = 0
            · have hbit : ((b2 : Int) == 0) = true := by rw [hb20]; rfl
              have hI2 := Lib.hid (hI.out.skip hjn (by rw [hbtH.out]; exact decide_eq_false (by omega)))
              clear hI hb20 hb2l hbtH
              go_wp2_with ((with_reducible refine wpl_guard ?_); first | (refine wpl_shr rfl _ _ _ _ rfl cols j rfl rfl (by omega) q2 hq2H.out ?_) | (refine wpl_and1 rfl _ _ _ rfl q2 hq264 rfl b2 hb2H.out ?_))
              go_roundw
              case rel => exact ⟨j + 1, s, O, hsH.out, rfl, by go_num, by omega, hO, hPO, hOl, hI2, hZ, hb⟩
              case measure => simp [intOf] <;> omega
            · have hbit : ((b2 : Int) == 0) = false := by rw [beq_eq_false_iff_ne]; omega
              have hbT := Lib.hid (by rw [hbtH.out]; exact decide_eq_true (by omega) : bt cols j = true)
              have hcle := Lib.hid (bt_le hc64 (by omega) hbT.out)
              have c1 : wr.cell? ⟨g, i0, none⟩ = some (Rl i0) := cell_below (hTcH.out i0 hi1) hb
              obtain ⟨bi, ci, hRe, hcl'⟩ := hTrH.out i0 hi1
              rw [hRe] at c1
              have hcl := Lib.hid (fun q (hq : q < 64) => cell_below (hcl' j hjn q hq) hb)
              have hiI : (i0 : Int) < (n : Int) := by omega
              have hTb' : TabS wr (.slice (some ⟨g, 0, none⟩) n c9) n E := ⟨g, c9, Rl, rfl, fun i0 hi => cell_below (hTcH.out i0 hi) hb, fun i0 hi => (hTrH.out i0 hi).below hb⟩
              have hTb := Lib.hid hTb'
              clear hTb'
              obtain ⟨hEP, hEl⟩ := hEH.out i0 j hi1 hjn
              have hE64 : P64 p (E i0 j) := ⟨hpH.out, hEP, by omega⟩
              have hdeg := Lib.hid (fun w => l01Deg_list p (E i0 j) w hE64)
              obtain ⟨Le, hLe⟩ : ∃ L, (E i0 j).length = L := ⟨_, rfl⟩
              rw [hLe] at hdeg
              have hLeH := Lib.hid hLe
              have hRm := Lib.hid (fun i0 (h : i0 ∈ bits n (rows - 2 ^ i0)) => (bits_mem h : i0 < n))
              clear hcl' hRe hLe hb20 hb2l hbtH
              go_wp2_with ((with_reducible refine wpl_guard ?_); first | (refine wpl_shr rfl _ _ _ _ rfl cols j rfl rfl (by omega) q2 hq2H.out ?_) | (refine wpl_and1 rfl _ _ _ rfl q2 hq264 rfl b2 hb2H.out ?_) | (refine wpl_index_bs rfl 38 25 64 _ _ rfl uTlnT sPoly (by decide) bi n ci j .i64 rfl rfl hjn ?_) | (refine wpl_load_bs rfl 25 _ rfl 64 bi (j * 64) rfl (cf (E i0 j)) hcl.out 5 uPoly sPoly ?_))
              refine (hdeg.out _).mono ?_
              rintro e w2 ⟨rfl, hn2⟩
              by_cases hz : Le = 0
              · have hge : ¬ ((0 : Int) ≤ (Le : Int) - 1) := by rw [hz]; decide
                have hI2 := Lib.hid (hI.out.void hpH.out hn hPO hcH.out hjn hbT.out (List.length_eq_zero_iff.1 (hLeH.out.trans hz)))
                replace hO := hO.keep hn2
                replace hZ := hZ.keep hn2
                replace hb := below_step hb hn2
                subst hz
                clear hI hdeg c1 hcl hTb hn2
                go_wp2_with ((with_reducible refine wpl_guard ?_); first | (refine wpl_neg rfl _ _ rfl s rfl (by omega) (by omega) ?_))
                go_roundw
                case rel => exact ⟨j + 1, -s, O, by have := hsH.out; omega, rfl, by go_num, by omega, hO, hPO, hOl, hI2, hZ, hb⟩
                case measure => simp [intOf] <;> omega
              · have hge : (0 : Int) ≤ (Le : Int) - 1 := by omega
                have hlc2 := Lib.hid (by
                  have h1 := hlcH.out
                  unfold bits at h1
                  rw [bitsA_split 0 n j _ (by omega), Nat.zero_add, show n - j = (n - (j + 1)) + 1 by omega, bitsA_cons, hbT.out, if_pos rfl] at h1
                  rw [bits_less hn hcH.out hjn hbT.out]
                  simp only [List.length_append, List.length_cons] at h1 ⊢
                  omega : (bits n (cols - 2 ^ j)).length = k)
                obtain ⟨hm1, hm2, hm3⟩ := minP_ok hpH.out hn hEH.out (R := bits n (rows - 2 ^ i0)) (C := bits n (cols - 2 ^ j)) (fun i0 h => bits_mem h) (fun i0 h => bits_mem h) (by rw [hlr'.out]; omega)
                rw [hlr'.out] at hm2
                have hmin := Lib.hid (fun w3 (hT : TabS w3 (.slice (some ⟨g, 0, none⟩) n c9) n E) => ihH.out (rows - 2 ^ i0) (cols - 2 ^ j) _ w3 (Nat.lt_of_le_of_lt (Nat.sub_le _ _) hrH.out) (Nat.lt_of_le_of_lt (Nat.sub_le _ _) hcH.out) hlr'.out hlc2.out hT)
                obtain ⟨D, hD⟩ : ∃ D, minP p E (bits n (rows - 2 ^ i0)) (bits n (cols - 2 ^ j)) = D := ⟨_, rfl⟩
                rw [hD] at hm1 hm2 hm3 hmin
                have hMDl := mkp_length ((E i0 j).length + D.length) (fun m => pmul (cf (E i0 j)) (cf D) m % p)
                have hMDl2 : (mulp p (E i0 j) D).length ≤ 8 := by show (mkp _ _).length ≤ _; omega
                have hMDP : Po p (mulp p (E i0 j) D) := mulp_Po (by omega) _ _
                have htm := Lib.hid (fun w3 => l01Times_in (E i0 j) D p w3 hE64 ⟨hpH.out, hm1, by omega⟩ (by omega))
                have hI2 := Lib.hid (hI.out.step hpH.out hn hcH.out hjn hbT.out ((mulp_eqp p (E i0 j) D).trans (Eqp.mul (Eqp.refl _) hm3)))
                have hadd := Lib.hid (fun w3 => l01Add_list O (mulp p (E i0 j) D) p s w3 ⟨hpH.out, hPO, by omega⟩ ⟨hpH.out, hMDP, by omega⟩ (by omega) (by omega))
                have hO2P : Po p (addp p O (mulp p (E i0 j) D) s) := addp_Po (by omega) _ _ _
                have hO2l : (addp p O (mulp p (E i0 j) D) s).length ≤ 8 := by have := addp_length p O (mulp p (E i0 j) D) s; omega
                obtain ⟨MD, hMD⟩ : ∃ X, mulp p (E i0 j) D = X := ⟨_, rfl⟩
                rw [hMD] at htm hadd hI2 hO2P hO2l
                have c2 := cell_below c1 hn2
                have hcl2 := Lib.hid (fun q (hq : q < 64) => cell_below (hcl.out q hq) hn2)
                have hT2 := Lib.hid (hTb.out.below hn2)
                replace hO := hO.keep hn2
                replace hZ := hZ.keep hn2
                replace hb := below_step hb hn2
                have hrle2 := hrle.out
                have hcle2 := hcle.out
                have h2i : 2 ^ i0 ≤ 64 := Nat.le_trans hrle2 (by omega)
                have h2j : 2 ^ j ≤ 64 := Nat.le_trans hcle2 (by omega)
                have hrleH := Lib.hid hrle2
                have hcleH := Lib.hid hcle2
                clear hI hdeg c1 hcl hTb hn2 hMDl hMDl2 hMDP hm1 hm2 hm3 hD hMD hlc2 hrle2 hcle2 h2i h2j hPO hOl
                go_upto_region 12 with (fail)
                refine law_region2 (by kernel_rfl) (by kernel_rfl) (by kernel_rfl) (by kernel_rfl)
                    (fun i => ([some (.int .i64 p), some (.slice (some ⟨g, 0, none⟩) n c9), some (.int .i64 (i0 : Int)), some (.pointer (some ⟨g, i0, none⟩)), some (.slice (some ⟨bi, 0, none⟩) n ci), some (.int .i64 (j : Int)), some (.pointer (some ⟨bi, j * 64, none⟩)), some (.agg (u8s 64 (cf (E i0 j)))), some (.int .i64 p), some (.slice (some ⟨g, 0, none⟩) n c9), some (.int .i64 (rows : Int)), some (.int .i64 (i0 : Int)), some (.int .u64 (i0 : Int)), some (.int .i64 ((2 ^ i0 : Nat) : Int)), some (.int .i64 ((rows - 2 ^ i0 : Nat) : Int)), some (.int .i64 (cols : Int)), some (.int .i64 (j : Int)), some (.int .u64 (j : Int)), some (.int .i64 ((2 ^ j : Nat) : Int)), some (.int .i64 ((cols - 2 ^ j : Nat) : Int)), some (.agg (u8s 64 (cf D))), some (.tuple #[.agg (u8s 64 (cf MD)), .bool true]), some (.tuple #[.agg (u8s 64 (cf MD)), .bool true]), some (.agg (u8s 64 (cf MD))), some (.bool true), none, none, some (.bool true)] : List (Option Value)).getD i none) 1 (fun zk => [25].getD zk 0) (fun zk => [26].getD zk 0) (fun zk => [23].getD zk 0) (fun zk => [13].getD zk 0) (fun zk => [71].getD zk 0) (fun zk => [64].getD zk 0) (fun zk => [(cf MD)].getD zk (fun _ => 0)) (fun zk => [25].getD zk 0) ?_ ?_ ?_ ?_ ?_ ?_
                · intro i hi
                  rcases i with _|_|_|_|_|_|_|_|_|_|_|_|_|_|_|_|_|_|_|_|_|_|_|_|_|_|_|_|i
                  · exact .inl ⟨_, rfl⟩
                  · exact .inl ⟨_, rfl⟩
                  · exact .inl ⟨_, rfl⟩
                  · exact .inl ⟨_, rfl⟩
                  · exact .inl ⟨_, rfl⟩
                  · exact .inl ⟨_, rfl⟩
                  · exact .inl ⟨_, rfl⟩
                  · exact .inl ⟨_, rfl⟩
                  · exact .inl ⟨_, rfl⟩
                  · exact .inl ⟨_, rfl⟩
                  · exact .inl ⟨_, rfl⟩
                  · exact .inl ⟨_, rfl⟩
                  · exact .inl ⟨_, rfl⟩
                  · exact .inl ⟨_, rfl⟩
                  · exact .inl ⟨_, rfl⟩
                  · exact .inl ⟨_, rfl⟩
                  · exact .inl ⟨_, rfl⟩
                  · exact .inl ⟨_, rfl⟩
                  · exact .inl ⟨_, rfl⟩
                  · exact .inl ⟨_, rfl⟩
                  · exact .inl ⟨_, rfl⟩
                  · exact .inl ⟨_, rfl⟩
                  · exact .inl ⟨_, rfl⟩
                  · exact .inl ⟨_, rfl⟩
                  · exact .inl ⟨_, rfl⟩
                  · exact .inr (.inl ⟨0, by decide, rfl⟩)
                  · exact .inr (.inr ⟨0, by decide, rfl⟩)
                  · exact .inl ⟨_, rfl⟩
                  · simp only [List.length_cons, List.length_nil] at hi; omega
                · intro k hk
                  rcases k with _|k
                  · exact ⟨rfl, rfl, rfl, zPoly⟩
                  · omega
                · intro k hk k' hk'
                  rcases k with _|k
                  all_goals rcases k' with _|k'
                  all_goals first | omega | exact ⟨by decide, by decide, by decide⟩
                · intro k hk
                  rcases k with _|k
                  · kernel_rfl
                  · omega
                · intro i o c ho hc a w9 hBw hrd hpar
                  rcases i with _|_|_|_|_|_|_|_|_|_|_|_|_|_|_|_|_|_|_|_|_|_|_|_|_|_|_|_|i
                  · obtain rfl := Option.some.inj ho
                    obtain rfl := Option.some.inj hc
                    exact wp_move _ (.int .i64 p) rfl (hpar 0 _ (by kernel_rfl) (by kernel_rfl))
                  · obtain rfl := Option.some.inj ho
                    obtain rfl := Option.some.inj hc
                    exact wp_move _ (.slice (some ⟨g, 0, none⟩) n c9) rfl (hpar 1 _ (by kernel_rfl) (by kernel_rfl))
                  · obtain rfl := Option.some.inj ho
                    obtain rfl := Option.some.inj hc
                    exact wp_move _ (.int .i64 (i0 : Int)) rfl (hpar 9 _ (by kernel_rfl) (by kernel_rfl))
                  · obtain rfl := Option.some.inj ho
                    obtain rfl := Option.some.inj hc
                    exact wp_index_row1 71 38 _ _ rfl uTabT sTlnT g n c9 i0 .i64 (hrd 1 _ _ 50 rfl rfl rfl (by kernel_rfl) (by kernel_rfl)) (hrd 2 _ _ 51 rfl rfl rfl (by kernel_rfl) (by kernel_rfl)) hi1
                  · obtain rfl := Option.some.inj ho
                    obtain rfl := Option.some.inj hc
                    exact wp_load_slice 38 25 _ rfl _ (hrd 3 _ _ 52 rfl rfl rfl (by kernel_rfl) (by kernel_rfl)) uTlnT _ (cell_below c2 hBw)
                  · obtain rfl := Option.some.inj ho
                    obtain rfl := Option.some.inj hc
                    exact wp_move _ (.int .i64 (j : Int)) rfl (hpar 12 _ (by kernel_rfl) (by kernel_rfl))
                  · obtain rfl := Option.some.inj ho
                    obtain rfl := Option.some.inj hc
                    exact wp_index_bs 38 25 64 _ _ rfl uTlnT sPoly (by decide) bi n ci j .i64 (hrd 4 _ _ 53 rfl rfl rfl (by kernel_rfl) (by kernel_rfl)) (hrd 5 _ _ 54 rfl rfl rfl (by kernel_rfl) (by kernel_rfl)) hjn
                  · obtain rfl := Option.some.inj ho
                    obtain rfl := Option.some.inj hc
                    exact wp_load_bs 25 _ rfl 64 bi (j * 64) (hrd 6 _ _ 55 rfl rfl rfl (by kernel_rfl) (by kernel_rfl)) (cf (E i0 j)) (fun q hq => cell_below (hcl2.out q hq) hBw) 5 uPoly sPoly
                  · obtain rfl := Option.some.inj ho
                    obtain rfl := Option.some.inj hc
                    exact wp_move _ (.int .i64 p) rfl (hpar 0 _ (by kernel_rfl) (by kernel_rfl))
                  · obtain rfl := Option.some.inj ho
                    obtain rfl := Option.some.inj hc
                    exact wp_move _ (.slice (some ⟨g, 0, none⟩) n c9) rfl (hpar 1 _ (by kernel_rfl) (by kernel_rfl))
                  · obtain rfl := Option.some.inj ho
                    obtain rfl := Option.some.inj hc
                    exact wp_move _ (.int .i64 (rows : Int)) rfl (hpar 2 _ (by kernel_rfl) (by kernel_rfl))
                  · obtain rfl := Option.some.inj ho
                    obtain rfl := Option.some.inj hc
                    exact wp_move _ (.int .i64 (i0 : Int)) rfl (hpar 9 _ (by kernel_rfl) (by kernel_rfl))
                  · obtain rfl := Option.some.inj ho
                    obtain rfl := Option.some.inj hc
                    exact wp_convU _ _ _ rfl i0 (hrd 11 _ _ 60 rfl rfl rfl (by kernel_rfl) (by kernel_rfl)) (by omega) Try.underlying2 Try.underlying100
                  · obtain rfl := Option.some.inj ho
                    obtain rfl := Option.some.inj hc
                    exact wpK_shl1 _ _ _ rfl i0 (by omega) (hrd 12 _ _ 61 rfl rfl rfl (by kernel_rfl) (by kernel_rfl)) ⟨rfl, Below.refl _ _⟩
                  · obtain rfl := Option.some.inj ho
                    obtain rfl := Option.some.inj hc
                    exact wpK_subN _ _ _ _ rfl rows (2 ^ i0) (hrd 10 _ _ 59 rfl rfl rfl (by kernel_rfl) (by kernel_rfl)) (hrd 13 _ _ 62 rfl rfl rfl (by kernel_rfl) (by kernel_rfl)) (by omega) hrleH.out ⟨rfl, Below.refl _ _⟩
                  · obtain rfl := Option.some.inj ho
                    obtain rfl := Option.some.inj hc
                    exact wp_move _ (.int .i64 (cols : Int)) rfl (hpar 3 _ (by kernel_rfl) (by kernel_rfl))
                  · obtain rfl := Option.some.inj ho
                    obtain rfl := Option.some.inj hc
                    exact wp_move _ (.int .i64 (j : Int)) rfl (hpar 12 _ (by kernel_rfl) (by kernel_rfl))
                  · obtain rfl := Option.some.inj ho
                    obtain rfl := Option.some.inj hc
                    exact wp_convU _ _ _ rfl j (hrd 16 _ _ 65 rfl rfl rfl (by kernel_rfl) (by kernel_rfl)) (by omega) Try.underlying2 Try.underlying100
                  · obtain rfl := Option.some.inj ho
                    obtain rfl := Option.some.inj hc
                    exact wpK_shl1 _ _ _ rfl j (by omega) (hrd 17 _ _ 66 rfl rfl rfl (by kernel_rfl) (by kernel_rfl)) ⟨rfl, Below.refl _ _⟩
                  · obtain rfl := Option.some.inj ho
                    obtain rfl := Option.some.inj hc
                    exact wpK_subN _ _ _ _ rfl cols (2 ^ j) (hrd 15 _ _ 64 rfl rfl rfl (by kernel_rfl) (by kernel_rfl)) (hrd 18 _ _ 67 rfl rfl rfl (by kernel_rfl) (by kernel_rfl)) (by omega) hcleH.out ⟨rfl, Below.refl _ _⟩
                  · obtain rfl := Option.some.inj ho
                    obtain rfl := Option.some.inj hc
                    exact wp_callB 85 [.tmp 57, .tmp 58, .tmp 63, .tmp 68] _ rfl [.int .i64 p, .slice (some ⟨g, 0, none⟩) n c9, .int .i64 ((rows - 2 ^ i0 : Nat) : Int), .int .i64 ((cols - 2 ^ j : Nat) : Int)] (by simp only [List.map_cons, List.map_nil, (hrd 8 _ _ 57 rfl rfl rfl (by kernel_rfl) (by kernel_rfl)), (hrd 9 _ _ 58 rfl rfl rfl (by kernel_rfl) (by kernel_rfl)), (hrd 14 _ _ 63 rfl rfl rfl (by kernel_rfl) (by kernel_rfl)), (hrd 19 _ _ 68 rfl rfl rfl (by kernel_rfl) (by kernel_rfl))]) Try.call85 _ (hmin.out w9 (hT2.out.below hBw))
                  · obtain rfl := Option.some.inj ho
                    obtain rfl := Option.some.inj hc
                    exact wp_callB 72 [.tmp 49, .tmp 56, .tmp 69] _ rfl [.int .i64 p, .agg (u8s 64 (cf (E i0 j))), .agg (u8s 64 (cf D))] (by simp only [List.map_cons, List.map_nil, (hrd 0 _ _ 49 rfl rfl rfl (by kernel_rfl) (by kernel_rfl)), (hrd 7 _ _ 56 rfl rfl rfl (by kernel_rfl) (by kernel_rfl)), (hrd 20 _ _ 69 rfl rfl rfl (by kernel_rfl) (by kernel_rfl))]) Try.call72 _ (htm.out w9)
                  · obtain rfl := Option.some.inj ho
                    obtain rfl := Option.some.inj hc
                    exact wp_move _ (.tuple #[.agg (u8s 64 (cf MD)), .bool true]) rfl (hrd 21 _ _ 70 rfl rfl rfl (by kernel_rfl) (by kernel_rfl))
                  · obtain rfl := Option.some.inj ho
                    obtain rfl := Option.some.inj hc
                    exact wp_extract _ 0 #[.agg (u8s 64 (cf MD)), .bool true] _ rfl (hrd 22 _ _ 48 rfl rfl rfl (by kernel_rfl) (by kernel_rfl)) rfl
                  · obtain rfl := Option.some.inj ho
                    obtain rfl := Option.some.inj hc
                    exact wp_extract _ 1 #[.agg (u8s 64 (cf MD)), .bool true] _ rfl (hrd 22 _ _ 48 rfl rfl rfl (by kernel_rfl) (by kernel_rfl)) rfl
                  · cases hc
                  · cases hc
                  · obtain rfl := Option.some.inj ho
                    obtain rfl := Option.some.inj hc
                    exact wp_assign _ (.bool true) rfl (hrd 24 _ _ 72 rfl rfl rfl (by kernel_rfl) (by kernel_rfl))
                  · cases hc
                intro vals xJ hBw hc hr
                have e0 : vals 0 = .int .i64 p := hc 0 _ (by simp) rfl
                have e1 : vals 1 = .slice (some ⟨g, 0, none⟩) n c9 := hc 1 _ (by simp) rfl
                have e2 : vals 2 = .int .i64 (i0 : Int) := hc 2 _ (by simp) rfl
                have e3 : vals 3 = .pointer (some ⟨g, i0, none⟩) := hc 3 _ (by simp) rfl
                have e4 : vals 4 = .slice (some ⟨bi, 0, none⟩) n ci := hc 4 _ (by simp) rfl
                have e5 : vals 5 = .int .i64 (j : Int) := hc 5 _ (by simp) rfl
                have e6 : vals 6 = .pointer (some ⟨bi, j * 64, none⟩) := hc 6 _ (by simp) rfl
                have e7 : vals 7 = .agg (u8s 64 (cf (E i0 j))) := hc 7 _ (by simp) rfl
                have e8 : vals 8 = .int .i64 p := hc 8 _ (by simp) rfl
                have e9 : vals 9 = .slice (some ⟨g, 0, none⟩) n c9 := hc 9 _ (by simp) rfl
                have e10 : vals 10 = .int .i64 (rows : Int) := hc 10 _ (by simp) rfl
                have e11 : vals 11 = .int .i64 (i0 : Int) := hc 11 _ (by simp) rfl
                have e12 : vals 12 = .int .u64 (i0 : Int) := hc 12 _ (by simp) rfl
                have e13 : vals 13 = .int .i64 ((2 ^ i0 : Nat) : Int) := hc 13 _ (by simp) rfl
                have e14 : vals 14 = .int .i64 ((rows - 2 ^ i0 : Nat) : Int) := hc 14 _ (by simp) rfl
                have e15 : vals 15 = .int .i64 (cols : Int) := hc 15 _ (by simp) rfl
                have e16 : vals 16 = .int .i64 (j : Int) := hc 16 _ (by simp) rfl
                have e17 : vals 17 = .int .u64 (j : Int) := hc 17 _ (by simp) rfl
                have e18 : vals 18 = .int .i64 ((2 ^ j : Nat) : Int) := hc 18 _ (by simp) rfl
                have e19 : vals 19 = .int .i64 ((cols - 2 ^ j : Nat) : Int) := hc 19 _ (by simp) rfl
                have e20 : vals 20 = .agg (u8s 64 (cf D)) := hc 20 _ (by simp) rfl
                have e21 : vals 21 = .tuple #[.agg (u8s 64 (cf MD)), .bool true] := hc 21 _ (by simp) rfl
                have e22 : vals 22 = .tuple #[.agg (u8s 64 (cf MD)), .bool true] := hc 22 _ (by simp) rfl
                have e23 : vals 23 = .agg (u8s 64 (cf MD)) := hc 23 _ (by simp) rfl
                have e24 : vals 24 = .bool true := hc 24 _ (by simp) rfl
                have e27 : vals 27 = .bool true := hc 27 _ (by simp) rfl
                obtain ⟨gJ0, p0, hgJ0, hJ0⟩ : ∃ g, vals 25 = .pointer (some ⟨g, 0, none⟩) ∧ _ ≤ g ∧ Blk xJ g (u8s 64 (cf MD)) 25 := hr 0 (by decide)
                simp only [List.length_cons, List.length_nil, Nat.zero_add, Nat.reduceAdd, List.replicate, putAll, if_true, Act.put, List.setIfInBounds_toArray, List.set_cons_zero, List.set_cons_succ, e0, e1, e2, e3, e4, e5, e6, e7, e8, e9, e10, e11, e12, e13, e14, e15, e16, e17, e18, e19, e20, e21, e22, e23, e24, e27, p0]
                replace hO := hO.keep hBw
                replace hZ := hZ.keep hBw
                replace hb := below_step hb hBw
                clear hc hr e0 e1 e2 e3 e4 e5 e6 e7 e8 e9 e10 e11 e12 e13 e14 e15 e16 e17 e18 e19 e20 e21 e22 e23 e24 e27 p0
                clear hBw
                clear hTrH hTcH hcl2 c2 hT2 hmin htm
                go_wp2_with ((with_reducible refine wpl_guard ?_); first | (refine wpl_load_arr rfl 25 _ rfl _ rfl _ _ hO _ _ uPoly sPoly ?_) | (refine wpl_load_arr rfl 25 _ rfl _ rfl _ _ hJ0 _ _ uPoly sPoly ?_))
                refine (hadd.out _).mono ?_
                rintro e w3 ⟨rfl, hn3⟩
                replace hO := hO.keep hn3
                replace hZ := hZ.keep hn3
                replace hb := below_step hb hn3
                clear hn3
                go_wp2_with ((with_reducible refine wpl_guard ?_); first | (refine wpl_store_arr rfl 25 _ _ rfl _ rfl _ rfl _ _ hO sPoly (by simp only [u8s_size]) (u8s_oneCell _ _) ?_) | (refine wpl_neg rfl _ _ rfl s rfl (by omega) (by omega) ?_))
                go_roundw
                case rel => exact ⟨j + 1, -s, addp p O MD s, by have := hsH.out; omega, rfl, by go_num, by omega, hO.setRow_same, hO2P, hO2l, hI2, hZ.setRow_other (by omega), below_setRow hb (by omega) _⟩
                case measure => simp [intOf] <;> omega
          · have ejn : n = j := by omega
            have hval := Lib.hid (by
              have h1 := hI.out
              rw [← ejn] at h1
              have h2 := h1.done
              rw [← hfst.out] at h2
              exact minP_only hpH.out hn hEH.out (fun i0 h => bits_mem h) (fun i0 h => bits_mem h) (by have := bits_len n rows; omega) hPO h2 : O = minP p E (bits n rows) (bits n cols))
            clear hI
            subst ejn
            go_wp2_with ((with_reducible refine wpl_guard ?_); first | (refine wpl_load_arr rfl 25 _ rfl _ rfl _ _ hO _ _ uPoly sPoly ?_) | (refine wpl_store_arr rfl 25 _ _ rfl _ rfl _ rfl _ _ hZ sPoly (by simp only [u8s_size]) (u8s_oneCell _ _) ?_))
            exact bodyPost_ret (res_c rfl rfl (hZ.setRow_same (cs := u8s 64 (cf O))) uPoly sPoly) rfl ⟨by rw [hval.out], below_setRow hb (by omega) _⟩
end Go.Proofs.Ytnkkkgaojhkniab

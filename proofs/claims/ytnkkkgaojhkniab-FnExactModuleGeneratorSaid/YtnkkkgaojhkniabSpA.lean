/- Several texts in one: Sp1, Sp2, Sp3, Sp4, Sp5, Sp6. -/
import Derived.Test.YtnkkkgaojhkniabMt8
import Derived.Test.YtnkkkgaojhkniabBsM
import Derived.Test.YtnkkkgaojhkniabInvA
set_option linter.unusedVariables false
set_option linter.unusedSimpArgs false
/- Walks: the reference's table of polynomials. -/
namespace Go.Proofs.Ytnkkkgaojhkniab
open Go.RowKit
theorem uTabT : Try.prog.underlying 71 = some (.slice 38) := by kernel_rfl
theorem uTlnT : Try.prog.underlying 38 = some (.slice 25) := by kernel_rfl
theorem sTlnT : (Try.prog.info? 38).map (·.size) = some 1 := by kernel_rfl
theorem iTln : (Try.prog.info? 38).map (fun i => (i.zero, i.size, i.bytes)) = some (some (.slice none 0 0), 1, 24) := by kernel_rfl
theorem iPolyB : (Try.prog.info? 25).map (fun i => (i.zero, i.size, i.bytes)) = some (some (.agg (u8s 64 fun _ => 0)), 64, 64) := by kernel_rfl
theorem zTln : ((Try.prog.info? 38).bind (·.zero)).isSome = true := by kernel_rfl
theorem zPolyS : ((Try.prog.info? 25).bind (·.zero)).isSome = true := by kernel_rfl
/-- A line of n polynomials that may be read. -/
def LnC (w : World) (v : Value) (n : Nat) (E : Nat → List Int) : Prop := ∃ (b c : Nat), v = .slice (some ⟨b, 0, none⟩) n c ∧ ∀ j, j < n → ∀ q, q < 64 → w.cell? ⟨b, j * 64 + q, none⟩ = some (.int .u8 (cf (E j) q))
theorem LnC.below {w w' : World} {v : Value} {n : Nat} {E : Nat → List Int} (h : LnC w v n E) (hb : Below w.heap.size w w') : LnC w' v n E := by
  obtain ⟨b, c, e, h⟩ := h
  exact ⟨b, c, e, fun j hj q hq => cell_below (h j hj q hq) hb⟩
/-- A table of polynomials that may be read. -/
def TabS (w : World) (v : Value) (n : Nat) (E : MxL) : Prop := ∃ (g c : Nat) (R : Nat → Value), v = .slice (some ⟨g, 0, none⟩) n c ∧ (∀ i, i < n → w.cell? ⟨g, i, none⟩ = some (R i)) ∧ ∀ i, i < n → LnC w (R i) n (E i)
theorem TabS.below {w w' : World} {v : Value} {n : Nat} {E : MxL} (h : TabS w v n E) (hb : Below w.heap.size w w') : TabS w' v n E := by
  obtain ⟨g, c, R, e, h1, h2⟩ := h
  exact ⟨g, c, R, e, fun i hi => cell_below (h1 i hi) hb, fun i hi => (h2 i hi).below hb⟩
/-- Numbers stay where a list of slices grows. -/
theorem cell_grow {w w' : World} {a : Addr} {k : IntKind} {z : Int} {base e q : Nat} {v : Value} {R : Nat → Value} (h : w.cell? a = some (.int k z)) (ha : a.spot = none) (hL : LineB w base e v q R) (hg : w.grownBy w' v.ownBlock) : w'.cell? a = some (.int k z) := by
  refine hg.cell h fun e2 => ?_
  rcases hL with ⟨rfl, _⟩ | ⟨b, c, rfl, _, _, _, hB, hs⟩
  · cases e2
  · injection e2 with e2
    obtain ⟨ab, ao, sp⟩ := a
    subst ha
    have e3 : ab = b := e2
    subst e3
    rw [hB.cell, arr_get] at h
    split at h
    · obtain ⟨x, m, y, h7⟩ := hs ao
      rw [h7] at h; cases h
    · cases h
theorem LnC.grow {w w' : World} {v vo : Value} {n base e q : Nat} {E : Nat → List Int} {R : Nat → Value} (h : LnC w v n E) (hL : LineB w base e vo q R) (hg : w.grownBy w' vo.ownBlock) : LnC w' v n E := by
  obtain ⟨b, c, e, h⟩ := h
  exact ⟨b, c, e, fun j hj q hq => cell_grow (h j hj q hq) rfl hL hg⟩
theorem BsL.lnC {w : World} {T B n : Nat} {v : Value} {E : Nat → List Int} (hn : 0 < n) (h : BsL T 64 w B v n E) : LnC w v n E := by
  obtain ⟨g, c, rfl, _⟩ := h.form hn
  exact ⟨g, c, rfl, fun j hj q hq => h.cells (by decide) j hj q hq⟩
theorem bsl_low {T m B C n : Nat} {w0 w w' : World} {v : Value} {M : Nat → List Int} (hb : Below C w0 w) (hL : BsL T m w B v n M) (hB : C ≤ B) (hBs : C ≤ w.heap.size) (hg : w.grownBy w' v.ownBlock) : Below C w0 w' :=
  hb.trans ⟨hg.os, hg.tape, hg.output, hg.size, fun k hk => hg.block k (by omega) (fun e => by have := (hL.lt k e.symm).1; omega)⟩
theorem entry_cells {p z s : Int} (hp : Pr p) (hs0 : 0 ≤ s) (hs1 : s < p) (hz : z = (p - s) % p) (Ms : Nat → List Int) (r q : Nat) (hM : cf (Ms r) q = s) (j : Nat) : (if j = 0 then z else if j = 1 ∧ r = q then 1 else 0) = cf (entM p Ms r q) j := by
  have hp2 := hp.pos
  subst hz hM
  have e0 : (-1 * cf (Ms r) q) % p = (p - cf (Ms r) q) % p := by rw [show p - cf (Ms r) q = -1 * cf (Ms r) q + p by omega, Int.add_emod_right]
  unfold entM
  by_cases e : r = q
  · rw [if_pos e, addp_cf, addp_cf, cf_nil, Int.zero_add, Int.one_mul]
    rcases j with _ | _ | j
    · rw [if_pos rfl, cf_cons_zero, cf_cons_zero, Int.add_zero, e0, Int.emod_emod_of_dvd _ (Int.dvd_refl p)]
    · rw [if_neg (by omega), if_pos ⟨rfl, e⟩, cf_cons_succ, cf_cons_succ, cf_nil, cf_cons_zero]
      simp only [Int.mul_zero, Int.zero_emod, Int.zero_add]
      exact (Int.emod_eq_of_lt (by omega) (by omega)).symm
    · rw [if_neg (by omega), if_neg (by omega), cf_cons_succ, cf_cons_succ, cf_nil, cf_cons_succ, cf_nil]; simp
  · rw [if_neg e, addp_cf, cf_nil, Int.zero_add]
    rcases j with _ | j
    · rw [if_pos rfl, cf_cons_zero, e0]
    · rw [if_neg (by omega), if_neg (by omega), cf_cons_succ, cf_nil]; simp
theorem LineB.tab {w : World} {base e n : Nat} {v : Value} {R : Nat → Value} {E : MxL} (h : LineB w base e v n R) (hn : 0 < n) (hR : ∀ i, i < n → LnC w (R i) n (E i)) : TabS w v n E := by
  rcases h with ⟨_, h1⟩ | ⟨b, c, h1, h2, h3, h4, h5, h6⟩
  · omega
  · exact ⟨b, c, R, h1, fun i hi => by rw [h5.cell]; exact arr_get_lt R (by omega), hR⟩
set_option maxRecDepth 20000 in
set_option maxHeartbeats 8000000 in
theorem l05Table_any (F : Nat → Int) (p : Int) (n : Nat) (Ms : Nat → List Int) (w : World) (hp : Pr p) (hn0 : 0 < n) (hn : n ≤ 6) (hF : ∀ i j, i < n → j < n → 0 ≤ F (i * 6 + j) ∧ F (i * 6 + j) < p ∧ cf (Ms i) j = F (i * 6 + j)) :
    Calls Try.prog 52 #[.int .i64 p, .int .i64 n, .agg (u8s 36 F)] w fun e w' => ∃ v, e = .returned v ∧ TabS w' v n (entM p Ms) ∧ Below w.heap.size w w' := by
  have hp2 := hp.pos
  have hpH := Lib.hid hp
  have hFH := Lib.hid hF
  have hA := Blk.new w (u8s 36 F) 30
  have hb0 := below_new w (.cells (u8s 36 F) 30)
  have hnI : (n : Int) ≤ 6 := by omega
  clear hF hp
  go_enter Try.func52, Try.ntmps52
  go_wp2_with ((with_reducible refine wpl_guard ?_); first | (refine wpl_buildSlice_voidB rfl 71 38 1 rfl uTabT sTlnT zTln ?_))
  have hn := below_new (w.alloc (.cells (u8s 36 F) 30)) (.cells #[] 38)
  have hL0' : LineB ((w.alloc (.cells (u8s 36 F) 30)).alloc (.cells #[] 38)) (w.alloc (.cells (u8s 36 F) 30)).heap.size 38 (.slice (some ⟨(w.alloc (.cells (u8s 36 F) 30)).heap.size, 0, none⟩) 0 0) 0 (fun _ => .slice none 0 0) := .inr ⟨_, 0, rfl, Nat.le_refl _, Nat.le_refl _, Nat.zero_le _, (Blk.new (w.alloc (.cells (u8s 36 F) 30)) #[] 38).cast (by unfold arr; rfl), fun j => ⟨none, 0, 0, rfl⟩⟩
  have hL0 := Lib.hid hL0'
  clear hL0'
  replace hA := hA.keep hn
  replace hb0 := below_step hb0 hn
  rw [size_alloc] at hL0
  go_loopw [7, 8] (fun vo vi wr => ∃ (r : Nat) (R : Nat → Value), r ≤ n ∧ vi = .int .i64 (r : Int) ∧ LineB wr (w.heap.size + 1) 38 vo r R ∧ Hid (∀ i, i < r → LnC wr (R i) n (entM p Ms i)) ∧ Blk wr w.heap.size (u8s 36 F) 30 ∧ Below w.heap.size w wr) (fun _ vi _ => n - (intOf vi).toNat)
  case atStart => exact ⟨0, _, by omega, rfl, hL0.out, Lib.hid fun i h => absurd h (by omega), hA, hb0⟩
  case round =>
    clear hA hb0 hL0 hn
    obtain ⟨r, R, hr, rfl, hL, hRows, hA, hb⟩ := hrel
    rename World => w0
    by_cases hrn : r < n
    · have hrI : (r : Int) < (n : Int) := by omega
      have hL9 := Lib.hid hL
      have hA9 := Lib.hid hA
      have hb9 := Lib.hid hb
      have hv0 := BsL.void w0 25 64 (entM p Ms r)
      have hn0 := below_new w0 (.cells #[] 25)
      clear hL hA hb
      go_wp2_with ((with_reducible refine wpl_guard ?_); first | (refine wpl_buildSlice_voidB rfl 38 25 64 rfl uTlnT sPoly zPolyS ?_))
      go_loopw [9, 10] (fun vr vj wq => ∃ q : Nat, q ≤ n ∧ vj = .int .i64 (q : Int) ∧ BsL 25 64 wq w0.heap.size vr q (entM p Ms r) ∧ Below w0.heap.size w0 wq) (fun _ vj _ => n - (intOf vj).toNat)
      case atStart => exact ⟨0, by omega, rfl, hv0, hn0⟩
      case round =>
        clear hv0 hn0
        obtain ⟨q, hq, rfl, hB, hbq⟩ := hrel
        rename World => wq
        by_cases hqn : q < n
        · have hqI : (q : Int) < (n : Int) := by omega
          have hq6 : (q : Int) < 6 := by omega
          have hr6 : (r : Int) < 6 := by omega
          obtain ⟨hz0, hz1, hzM⟩ := hFH.out r q hrn hqn
          have c0 : wq.cell? ⟨w.heap.size, r * 6 + q, none⟩ = some (.int .u8 (F (r * 6 + q))) := by rw [(hA9.out.keep hbq).cell, u8s_get _ (by omega)]
          obtain ⟨z, hz⟩ : ∃ z, F (r * 6 + q) = z := ⟨_, rfl⟩
          rw [hz] at c0 hz0 hz1 hzM
          obtain ⟨y, hy⟩ : ∃ y, (p - z) % p = y := ⟨_, rfl⟩
          have hy0 : 0 ≤ y ∧ y < p := by rw [← hy]; exact ⟨Int.emod_nonneg _ (by omega), Int.emod_lt_of_pos _ (by omega)⟩
          have hyt : (p - z).tmod p = y := by rw [Int.tmod_eq_emod_of_nonneg (by omega)]; exact hy
          have hfin := Lib.hid (fun j => entry_cells hpH.out hz0 hz1 hy.symm Ms r q hzM j)
          clear hz hzM hy
          go_upto_region 10 with ((with_reducible refine wpl_guard ?_); first | (refine wpl_build_one rfl 25 64 5 _ rfl _ rfl (by decide) uPoly sByte zPoly ?_) | (refine wpl_alloc_arr rfl 25 rfl _ zPoly ?_) | (refine wpl_store_new rfl 25 _ _ rfl _ rfl rfl _ rfl sPoly (by simp only [u8s_size]) (u8s_oneCell _ _) ?_))
          have hO := Blk.new wq (u8s 64 fun j => if j = 0 then y else 0) 25
          have hn := below_new wq (.cells (u8s 64 fun j => if j = 0 then y else 0) 25)
          have hlt := fun b e => (hB.lt b e).2
          have hB1 := Lib.hid (hB.below hn)
          have hb1 := Lib.hid (below_step hbq hn)
          have hsz := hbq.size
          clear hn hB hbq c0 hyt
          generalize World.alloc wq _ = w1 at *
          obtain ⟨gO, hgO⟩ : ∃ q, wq.heap.size = q := ⟨_, rfl⟩
          have hgw : w0.heap.size ≤ gO := by omega
          rw [hgO] at hO hlt ⊢
          clear hgO
          obtain ⟨E, hEe⟩ : ∃ E, entM p Ms r q = E := ⟨_, rfl⟩
          have hEH := Lib.hid hEe
          by_cases hrq : r = q
          · have hrqb : ((r : Int) == (q : Int)) = true := by rw [hrq]; exact beq_self_eq_true _
            have hfin2 : u8s 64 (fun j => if j = 1 then (1 : Int) else if j = 0 then y else 0) = u8s 64 (cf E) := u8s_ext fun j _ => by
              have := hfin.out j
              rw [hEe] at this
              rw [← this]
              by_cases e : j = 1
              · subst e; simp [hrq]
              · simp [e]
            have c1 : w1.cell? ⟨gO, 1, none⟩ = some (.int .u8 0) := by rw [hO.cell, u8s_get _ (by omega)]; rfl
            have f1 := hO.free 1
            have hO2 := hO.set 1 (.int .u8 1)
            rw [u8s_set, hfin2] at hO2
            have hb2 := Lib.hid (hb1.out.setCell (show w0.heap.size ≤ (Addr.mk gO 1 none).block by exact hgw) (.int .u8 1))
            have hgr : w1.grownBy (w1.setCell ⟨gO, 1, none⟩ (.int .u8 1)) (some gO) := ⟨rfl, rfl, rfl, by simp, fun k _ hk => heap_setCell_other w1 ⟨gO, 1, none⟩ k (.int .u8 1) (fun e => hk (congrArg some e))⟩
            have hB2 := Lib.hid (hB1.out.kept hgr (.inr fun e => by have := hlt gO e; omega))
            clear hgr
            obtain ⟨wX, hwX⟩ : ∃ wX, w1.setCell ⟨gO, 1, none⟩ (.int .u8 1) = wX := ⟨_, rfl⟩
            rw [hwX] at hO2 hb2 hB2
            have hwXH := Lib.hid hwX
            clear hrq hfin hfin2 hO hB1 hb1 hsz hEe hwX hlt
            go_upto_region 12 with (fail)
            rw [hwXH.out]
            clear c1 f1 hwXH
            have hO := hO2
            clear hO2
            have hn := below_new wX (.cells (u8s 64 (cf E)) 25)
            have hB3 := Lib.hid (hB2.out.below hn)
            have hb3 := Lib.hid (below_step hb2.out hn)
            have nw := Lib.hid (arr_news wX 64 25 E)
            have hbs := Lib.hid (Nat.le_trans hb2.out.size hn.size)
            clear hn hB2 hb2
            go_wp2_with ((with_reducible refine wpl_guard ?_); first | (refine wpl_load_arr rfl 25 _ rfl _ rfl _ _ hO _ _ uPoly sPoly ?_) | (refine wpl_buildSlice_arr rfl 38 25 64 _ rfl uTlnT sPoly zPoly (by decide) (by decide) (cf E) rfl ?_) | (at_builtin; refine wpl_append_farB rfl _ _ 38 rfl (w0.heap.size) 25 _ 64 64 uTlnT iPolyB (by simp [Value.cells, u8s_size]) (by decide) (by decide) _ q _ rfl hB3.out ⟨wX.heap.size, 0, none⟩ rfl (u8s 64 (cf E)).toList (by rw [Array.length_toList, u8s_size]) (fun j u h => by rw [addr_add]; exact nw.out j u h) (arr_ones 64 E) (by omega) hbs.out ?_))
            intro v5 w5 hown5 hg5 _
            have hB5 := Lib.hid (BsL.snoc (by decide) hEH.out hown5)
            have hb5 := Lib.hid (bsl_low hb3.out hB3.out (Nat.le_refl _) hbs.out hg5)
            clear hown5 hg5 hB3 hb3 nw hbs hO
            go_wp2_with fail
            go_roundw
            case rel => exact ⟨q + 1, by omega, by go_num, hB5.out, hb5.out⟩
            case measure => simp [intOf] <;> omega
          · have hrqb : ((r : Int) == (q : Int)) = false := by rw [beq_eq_false_iff_ne]; omega
            have hfin2 : u8s 64 (fun j => if j = 0 then y else 0) = u8s 64 (cf E) := u8s_ext fun j _ => by
              have := hfin.out j
              rw [hEe] at this
              rw [← this]
              simp [hrq]
            rw [hfin2] at hO
            have hb2 := hb1
            have hB2 := hB1
            obtain ⟨wX, hwX⟩ : ∃ wX, w1 = wX := ⟨_, rfl⟩
            subst hwX
            rename World => wX
            clear hrq hfin hfin2 hb1 hB1 hsz hEe hlt
            go_upto_region 12 with (fail)
            have hn := below_new wX (.cells (u8s 64 (cf E)) 25)
            have hB3 := Lib.hid (hB2.out.below hn)
            have hb3 := Lib.hid (below_step hb2.out hn)
            have nw := Lib.hid (arr_news wX 64 25 E)
            have hbs := Lib.hid (Nat.le_trans hb2.out.size hn.size)
            clear hn hB2 hb2
            go_wp2_with ((with_reducible refine wpl_guard ?_); first | (refine wpl_load_arr rfl 25 _ rfl _ rfl _ _ hO _ _ uPoly sPoly ?_) | (refine wpl_buildSlice_arr rfl 38 25 64 _ rfl uTlnT sPoly zPoly (by decide) (by decide) (cf E) rfl ?_) | (at_builtin; refine wpl_append_farB rfl _ _ 38 rfl (w0.heap.size) 25 _ 64 64 uTlnT iPolyB (by simp [Value.cells, u8s_size]) (by decide) (by decide) _ q _ rfl hB3.out ⟨wX.heap.size, 0, none⟩ rfl (u8s 64 (cf E)).toList (by rw [Array.length_toList, u8s_size]) (fun j u h => by rw [addr_add]; exact nw.out j u h) (arr_ones 64 E) (by omega) hbs.out ?_))
            intro v5 w5 hown5 hg5 _
            have hB5 := Lib.hid (BsL.snoc (by decide) hEH.out hown5)
            have hb5 := Lib.hid (bsl_low hb3.out hB3.out (Nat.le_refl _) hbs.out hg5)
            clear hown5 hg5 hB3 hb3 nw hbs hO
            go_wp2_with fail
            go_roundw
            case rel => exact ⟨q + 1, by omega, by go_num, hB5.out, hb5.out⟩
            case measure => simp [intOf] <;> omega
        · have eqn : n = q := by omega
          have hB3 := hB
          rw [← eqn] at hB3
          obtain ⟨gr, cr, hre, _⟩ := hB3.form hn0
          subst hre
          clear hB eqn
          have hL1 := Lib.hid (hL9.out.below hbq)
          have hA1 := Lib.hid (hA9.out.keep hbq)
          have hb1 := Lib.hid (below_step hb9.out hbq)
          have hR9 := Lib.hid (fun i (hi : i < r) => (hRows.out i hi).below hbq)
          have hr9 := Lib.hid (hB3.lnC hn0)
          clear hB3 hbq
          have hn := below_new wq (.cells #[.slice (some ⟨gr, 0, none⟩) n cr] 38)
          have hL2 := Lib.hid (hL1.out.below hn)
          have hA2 := Lib.hid (hA1.out.keep hn)
          have hb2 := Lib.hid (below_step hb1.out hn)
          have hR2 := Lib.hid (fun i (hi : i < r) => (hR9.out i hi).below hn)
          have hr2 := Lib.hid (hr9.out.below hn)
          have hcc := Lib.hid ((Blk.new wq #[.slice (some ⟨gr, 0, none⟩) n cr] 38).cell 0)
          have hbs := Lib.hid (by have h1 := hA1.out.lt; rw [size_alloc]; omega : w.heap.size + 1 ≤ (wq.alloc (.cells #[.slice (some ⟨gr, 0, none⟩) n cr] 38)).heap.size)
          clear hn hL1 hA1 hb1 hR9 hr9
          go_wp2_with ((with_reducible refine wpl_guard ?_); first | (at_builtin; refine wpl_append_line rfl _ _ 71 rfl (w.heap.size + 1) 38 uTabT iTln u7 r R rfl hL2.out ⟨wq.heap.size, 0, none⟩ rfl (.slice (some ⟨gr, 0, none⟩) n cr) ⟨_, _, _, rfl⟩ hcc.out (by omega) hbs.out ?_))
          intro b5 c5 wA R5 hL5 hg5 hR51 hR52 _
          have hA5 := Lib.hid (by
            have h1 := hA2.out
            unfold Blk at h1 ⊢
            rw [hg5.block _ hA2.out.lt (fun e => by have := (hL2.out.lt e.symm).2; omega)]
            exact h1 : Blk wA w.heap.size (u8s 36 F) 30)
          have hb5 := Lib.hid (grown_low hb2.out hL2.out (Nat.le_succ _) (Nat.le_trans (Nat.le_succ _) hbs.out) hg5)
          have hR5 := Lib.hid (fun i (hi : i < r + 1) => (by
            by_cases e : i = r
            · subst e; rw [hR52]; exact hr2.out.grow hL2.out hg5
            · rw [hR51 i (by omega)]; exact (hR2.out i (by omega)).grow hL2.out hg5 : LnC wA (R5 i) n (entM p Ms i)))
          clear hg5 hR51 hR52 hL2 hA2 hb2 hR2 hr2 hcc hbs
          go_wp2_with fail
          go_roundw
          case rel => exact ⟨r + 1, R5, by omega, by go_num, hL5, hR5, hA5.out, hb5.out⟩
          case measure => simp [intOf] <;> omega
    · have ern : n = r := by omega
      have hT := Lib.hid (by rw [ern] at hn0 ⊢; exact hL.tab hn0 (by rw [← ern]; rw [← ern] at hRows; exact hRows.out) : TabS w0 u7 n (entM p Ms))
      clear hL hRows hA
      go_wp2_with fail
      go_ret
      exact ⟨_, rfl, hT.out, hb⟩
end Go.Proofs.Ytnkkkgaojhkniab

/- Walks: numbers in base 2 as lists of places; shifts; determinants summed up column by column. -/
namespace Go.Proofs.Ytnkkkgaojhkniab
open Go.RowKit
/-! ## places of ones -/
def bt (m i : Nat) : Bool := decide (m / 2 ^ i % 2 = 1)
def bitsA (a k m : Nat) : List Nat := (List.range' a k).filter (bt m)
def bits (n m : Nat) : List Nat := bitsA 0 n m
def ones : Nat → Nat → Nat
  | 0, _ => 0
  | f + 1, m => m % 2 + ones f (m / 2)
theorem ones_bits : ∀ n, n ≤ 6 → ∀ m, m < 2 ^ n → ones 6 m = (bits n m).length := by
  have key : ∀ n : Fin 7, ∀ m : Fin 64, m.val < 2 ^ n.val → ones 6 m.val = (bits n.val m.val).length := by decide +kernel
  intro n hn m hm
  have : 2 ^ n ≤ 2 ^ 6 := Nat.pow_le_pow_right (by omega) hn
  exact key ⟨n, by omega⟩ ⟨m, by omega⟩ hm
theorem bt_less {c j i : Nat} (hc : c < 64) (hj : j < 6) (hi : i < 6) (h : bt c j = true) : bt (c - 2 ^ j) i = (bt c i && decide (i ≠ j)) := by
  have key : ∀ c : Fin 64, ∀ j i : Fin 6, bt c.val j.val = true → bt (c.val - 2 ^ j.val) i.val = (bt c.val i.val && decide (i.val ≠ j.val)) := by decide +kernel
  exact key ⟨c, hc⟩ ⟨j, hj⟩ ⟨i, hi⟩ h
theorem bt_le {c j : Nat} (hc : c < 64) (hj : j < 6) (h : bt c j = true) : 2 ^ j ≤ c := by
  have key : ∀ c : Fin 64, ∀ j : Fin 6, bt c.val j.val = true → 2 ^ j.val ≤ c.val := by decide +kernel
  exact key ⟨c, hc⟩ ⟨j, hj⟩ h
theorem bits_zero (n : Nat) : bits n 0 = [] := by
  unfold bits bitsA
  rw [List.filter_eq_nil_iff]
  intro i _
  unfold bt; simp
theorem bits_pos {n m : Nat} (hn : n ≤ 6) (hm : m < 2 ^ n) (h : m ≠ 0) : ∃ i, i < n ∧ bt m i = true ∧ ∀ k, k < i → bt m k = false := by
  have key : ∀ n : Fin 7, ∀ m : Fin 64, m.val < 2 ^ n.val → m.val ≠ 0 → ∃ i : Fin 6, i.val < n.val ∧ bt m.val i.val = true ∧ ∀ k : Fin 6, k.val < i.val → bt m.val k.val = false := by decide +kernel
  have : 2 ^ n ≤ 2 ^ 6 := Nat.pow_le_pow_right (by omega) hn
  obtain ⟨i, h1, h2, h3⟩ := key ⟨n, by omega⟩ ⟨m, by omega⟩ hm h
  exact ⟨i.val, h1, h2, fun k hk => h3 ⟨k, by omega⟩ hk⟩
theorem bitsA_split (a k j m : Nat) (h : j ≤ k) : bitsA a k m = bitsA a j m ++ bitsA (a + j) (k - j) m := by
  unfold bitsA
  rw [← List.filter_append, List.range'_append_1, show j + (k - j) = k by omega]
theorem bitsA_cons (a k m : Nat) : bitsA a (k + 1) m = if bt m a = true then a :: bitsA (a + 1) k m else bitsA (a + 1) k m := by
  unfold bitsA
  rw [List.range'_succ, List.filter_cons]
theorem bitsA_nil (a m : Nat) : bitsA a 0 m = [] := rfl
theorem bitsA_less {a k c j : Nat} (hc : c < 64) (hj : j < 6) (hk : a + k ≤ 6) (h : bt c j = true) (hne : j < a ∨ a + k ≤ j) : bitsA a k (c - 2 ^ j) = bitsA a k c := by
  unfold bitsA
  refine List.filter_congr fun i hi => ?_
  have := List.mem_range'_1.1 hi
  rw [bt_less hc hj (by omega) h]
  have e : decide (i ≠ j) = true := decide_eq_true (by omega)
  rw [e, Bool.and_true]
/-- Without column j. -/
theorem bits_less {n c j : Nat} (hn : n ≤ 6) (hc : c < 2 ^ n) (hj : j < n) (h : bt c j = true) : bits n (c - 2 ^ j) = bitsA 0 j c ++ bitsA (j + 1) (n - (j + 1)) c := by
  have h2 : 2 ^ n ≤ 2 ^ 6 := Nat.pow_le_pow_right (by omega) hn
  unfold bits
  have hc6 : c < 64 := by omega
  have hlt : c - 2 ^ j < 64 := Nat.lt_of_le_of_lt (Nat.sub_le _ _) hc6
  rw [bitsA_split 0 n j _ (by omega), Nat.zero_add, show n - j = (n - (j + 1)) + 1 by omega, bitsA_cons]
  have e : bt (c - 2 ^ j) j = false := by rw [bt_less hc6 (by omega) (by omega) h]; simp
  rw [e, if_neg (by simp), bitsA_less hc6 (by omega) (by omega) h (.inr (by omega)), bitsA_less hc6 (by omega) (by omega) h (.inl (by omega))]
theorem bitsA_empty {a k m : Nat} (h : ∀ i, a ≤ i → i < a + k → bt m i = false) : bitsA a k m = [] := by
  unfold bitsA
  rw [List.filter_eq_nil_iff]
  intro i hi
  have := List.mem_range'_1.1 hi
  rw [h i this.1 this.2]; simp
/-- The first one apart. -/
theorem bits_first {n m i : Nat} (hn : n ≤ 6) (hm : m < 2 ^ n) (hi : i < n) (h : bt m i = true) (h0 : ∀ k, k < i → bt m k = false) : bits n m = i :: bits n (m - 2 ^ i) := by
  rw [bits_less hn hm hi h, bitsA_empty (fun k _ hk => h0 k (by omega)), List.nil_append]
  unfold bits
  rw [bitsA_split 0 n i _ (by omega), bitsA_empty (fun k _ hk => h0 k (by omega)), List.nil_append, Nat.zero_add, show n - i = (n - (i + 1)) + 1 by omega, bitsA_cons, h, if_pos rfl]
theorem bits_mem {n m i : Nat} (h : i ∈ bits n m) : i < n := by
  unfold bits bitsA at h
  have := List.mem_range'_1.1 (List.mem_filter.1 h).1
  omega
theorem bits_ord (n m : Nat) : Ord n (bits n m) := ⟨bt m, by unfold bits bitsA; rw [List.range_eq_range']⟩
def maskB (b : Nat → Bool) : Nat := (if b 0 then 1 else 0) + (if b 1 then 2 else 0) + (if b 2 then 4 else 0) + (if b 3 then 8 else 0) + (if b 4 then 16 else 0) + (if b 5 then 32 else 0)
theorem ord_bits {n : Nat} (hn : n ≤ 6) {R : List Nat} (h : Ord n R) : ∃ m, m < 2 ^ n ∧ bits n m = R := by
  have key : ∀ b0 b1 b2 b3 b4 b5 : Bool, ∀ i : Fin 6, bt ((if b0 then 1 else 0) + (if b1 then 2 else 0) + (if b2 then 4 else 0) + (if b3 then 8 else 0) + (if b4 then 16 else 0) + (if b5 then 32 else 0)) i.val = [b0, b1, b2, b3, b4, b5].getD i.val false := by decide +kernel
  have key2 : ∀ n : Fin 7, ∀ b0 b1 b2 b3 b4 b5 : Bool, (∀ i : Fin 6, n.val ≤ i.val → [b0, b1, b2, b3, b4, b5].getD i.val false = false) → (if b0 then 1 else 0) + (if b1 then 2 else 0) + (if b2 then 4 else 0) + (if b3 then 8 else 0) + (if b4 then 16 else 0) + (if b5 then 32 else 0) < 2 ^ n.val := by decide +kernel
  obtain ⟨f, rfl⟩ := h
  obtain ⟨g, hg⟩ : ∃ g : Nat → Bool, ∀ i, g i = (decide (i < n) && f i) := ⟨_, fun _ => rfl⟩
  have hget : ∀ i, i < 6 → [g 0, g 1, g 2, g 3, g 4, g 5].getD i false = g i := fun i hi => by
    rcases i with _ | _ | _ | _ | _ | _ | i
    all_goals first | rfl | omega
  refine ⟨maskB g, key2 ⟨n, by omega⟩ (g 0) (g 1) (g 2) (g 3) (g 4) (g 5) fun i hi => ?_, ?_⟩
  · rw [hget i.val i.isLt, hg]
    have : decide (i.val < n) = false := decide_eq_false (by show ¬ i.val < n; have : n ≤ i.val := hi; omega)
    rw [this]; rfl
  · unfold bits bitsA
    rw [List.range_eq_range']
    refine List.filter_congr fun i hi => ?_
    have h1 := List.mem_range'_1.1 hi
    have h2 := key (g 0) (g 1) (g 2) (g 3) (g 4) (g 5) ⟨i, by omega⟩
    have h3 := (h2.trans (hget i (by omega))).trans (hg i)
    rw [decide_eq_true (by omega : i < n), Bool.true_and] at h3
    exact h3
end Go.Proofs.Ytnkkkgaojhkniab

/- Walks: shifts and masks of small numbers; how many ones. -/
namespace Go.Proofs.Ytnkkkgaojhkniab
open Go.RowKit
section
variable {P : Program} {Q : Exit → Act → World → Prop} {o : Oper} {a : Act} {w : World} {ops : Array Oper} {rest : List Oper}
theorem wpK_shr {K : Act → World → Prop} (t t' : TypeId) (x y : Operand) (hop : o.op = .binOp .shr t x y t') (m i : Nat) (hx : a.eval x = .int .i64 (m : Int)) (hy : a.eval y = .int .u64 (i : Int)) (hi : i ≤ 60) (h : K (a.put o.dst (.int .i64 ((m / 2 ^ i : Nat) : Int))) w) : o.wp P a w K Q := by
  have h1 : min ((i : Int).toNat) IntKind.i64.bits = i := by show min ((i : Int).toNat) 64 = i; omega
  have h2 : ((m : Int).fdiv (2 ^ i)) = ((m / 2 ^ i : Nat) : Int) := by
    rw [Int.fdiv_eq_ediv_of_nonneg _ (by exact Int.le_of_lt (Int.pow_pos (by decide)))]
    simp
  unfold Oper.wp execOp
  simp only [hop, hx, hy, eqGuard, binOp, Op.shift, Sem.run_bind, Sem.run_pure, Result.andThen_ok, Bool.not_false, if_true]
  rw [if_neg (by omega), h1]
  simp only [h2, Sem.run_pure, Result.andThen_ok, Oper.upon]
  exact h
theorem wpK_and1 {K : Act → World → Prop} (t t' : TypeId) (x : Operand) (hop : o.op = .binOp .and t x (.const (.int .i64 1)) t') (m : Nat) (hm : m < 64) (hx : a.eval x = .int .i64 (m : Int)) (h : K (a.put o.dst (.int .i64 ((m % 2 : Nat) : Int))) w) : o.wp P a w K Q := by
  have h1 : IntKind.i64.wrap ((BitVec.ofInt IntKind.i64.bits (m : Int) &&& BitVec.ofInt IntKind.i64.bits 1).toNat : Int) = ((m % 2 : Nat) : Int) := by
    have key : ∀ m : Fin 64, IntKind.i64.wrap ((BitVec.ofInt IntKind.i64.bits (m.val : Int) &&& BitVec.ofInt IntKind.i64.bits 1).toNat : Int) = ((m.val % 2 : Nat) : Int) := by decide +kernel
    exact key ⟨m, hm⟩
  have hc : a.eval (.const (.int .i64 1)) = .int .i64 1 := rfl
  unfold Oper.wp execOp
  simp only [hop, hx, hc, eqGuard, binOp, Op.intBits, Sem.run_bind, Sem.run_pure, Result.andThen_ok, Bool.not_false, if_true, ne_eq, not_true, if_false, h1, Oper.upon]
  exact h
theorem wpK_shl1 {K : Act → World → Prop} (t t' : TypeId) (y : Operand) (hop : o.op = .binOp .shl t (.const (.int .i64 1)) y t') (i : Nat) (hi : i ≤ 6) (hy : a.eval y = .int .u64 (i : Int)) (h : K (a.put o.dst (.int .i64 ((2 ^ i : Nat) : Int))) w) : o.wp P a w K Q := by
  have h1 : min ((i : Int).toNat) IntKind.i64.bits = i := by show min ((i : Int).toNat) 64 = i; omega
  have h2 : IntKind.i64.wrap (1 * 2 ^ i) = ((2 ^ i : Nat) : Int) := by
    have key : ∀ i : Fin 7, IntKind.i64.wrap (1 * 2 ^ i.val) = ((2 ^ i.val : Nat) : Int) := by decide +kernel
    exact key ⟨i, by omega⟩
  have hc : a.eval (.const (.int .i64 1)) = .int .i64 1 := rfl
  unfold Oper.wp execOp
  simp only [hop, hc, hy, eqGuard, binOp, Op.shift, Sem.run_bind, Sem.run_pure, Result.andThen_ok, Bool.not_false, if_true]
  rw [if_neg (by omega), h1]
  simp only [h2, Sem.run_pure, Result.andThen_ok, Oper.upon]
  exact h
theorem wpK_subN {K : Act → World → Prop} (t t' : TypeId) (x y : Operand) (hop : o.op = .binOp .sub t x y t') (m k : Nat) (hx : a.eval x = .int .i64 (m : Int)) (hy : a.eval y = .int .i64 (k : Int)) (hm : m ≤ 1000) (hk : k ≤ m) (h : K (a.put o.dst (.int .i64 ((m - k : Nat) : Int))) w) : o.wp P a w K Q := by
  have h2 : IntKind.i64.wrap ((m : Int) - (k : Int)) = ((m - k : Nat) : Int) := by rw [IntKind.wrap_i64]; omega
  unfold Oper.wp execOp
  simp only [hop, hx, hy, eqGuard, binOp, Op.intArith, Sem.run_bind, Sem.run_pure, Result.andThen_ok, Bool.not_false, if_true, ne_eq, not_true, if_false, h2, Oper.upon]
  exact h
theorem wp_convU (s d : TypeId) (x : Operand) (hop : o.op = .convert s d x) (v : Nat) (hx : a.eval x = .int .i64 (v : Int)) (h1 : v ≤ 1000) (hs : P.underlying s = some (.int .i64)) (hd : P.underlying d = some (.int .u64)) :
    o.wp P a w (fun a' w' => a' = a.put o.dst (.int .u64 (v : Int)) ∧ Below w.heap.size w w') Q := by
  have hk : P.intKind d = .u64 := by simp [Program.intKind, hd]
  have h2 := run_convert_int (P := P) w s d .i64 (v : Int) (by rw [hs]; rfl) (by rw [hk]; exact hd)
  have hw : IntKind.u64.wrap (v : Int) = (v : Int) := by
    simp [IntKind.wrap, IntKind.bits, IntKind.signed]
    omega
  rw [hk, hw] at h2
  unfold Oper.wp execOp
  simp [hop, hx, h2, Oper.upon]
  exact Below.refl _ _
theorem wpl_neg (hw : Region.wanted o (yielded ops a.tmps) = true) (t : TypeId) (x : Operand) (hop : o.op = .unOp .neg t x) (A : Int) (hx : a.eval x = .int .i64 A) (h0 : -1000 ≤ A) (h1 : A ≤ 1000)
    (h : wpList P ops Q rest (a.put o.dst (.int .i64 (-A))) w) : wpList P ops Q (o :: rest) a w := by
  refine wpl_wanted hw fun K hK => ?_
  have hw : IntKind.i64.wrap (-A) = -A := by rw [IntKind.wrap_i64]; omega
  have hw0 : IntKind.i64.wrap (0 - A) = -A := by rw [IntKind.wrap_i64]; omega
  unfold Oper.wp execOp
  simp [hop, hx, Op.unary, Op.intArith, Sem.run_bind, Oper.upon, hw, hw0]
  exact hK _ _ h
theorem wpl_shr (hw : Region.wanted o (yielded ops a.tmps) = true) (t t' : TypeId) (x y : Operand) (hop : o.op = .binOp .shr t x y t') (m i : Nat) (hx : a.eval x = .int .i64 (m : Int)) (hy : a.eval y = .int .u64 (i : Int)) (hi : i ≤ 60) (q : Nat) (hq : m / 2 ^ i = q)
    (h : wpList P ops Q rest (a.put o.dst (.int .i64 (q : Int))) w) : wpList P ops Q (o :: rest) a w := wpl_wanted hw fun K hK => wpK_shr t t' x y hop m i hx hy hi (by rw [hq]; exact hK _ _ h)
theorem wpl_and1 (hw : Region.wanted o (yielded ops a.tmps) = true) (t t' : TypeId) (x : Operand) (hop : o.op = .binOp .and t x (.const (.int .i64 1)) t') (m : Nat) (hm : m < 64) (hx : a.eval x = .int .i64 (m : Int)) (b : Nat) (hb : m % 2 = b)
    (h : wpList P ops Q rest (a.put o.dst (.int .i64 (b : Int))) w) : wpList P ops Q (o :: rest) a w := wpl_wanted hw fun K hK => wpK_and1 t t' x hop m hm hx (by rw [hb]; exact hK _ _ h)
theorem wpl_shl1 (hw : Region.wanted o (yielded ops a.tmps) = true) (t t' : TypeId) (y : Operand) (hop : o.op = .binOp .shl t (.const (.int .i64 1)) y t') (i : Nat) (hi : i ≤ 6) (hy : a.eval y = .int .u64 (i : Int))
    (h : wpList P ops Q rest (a.put o.dst (.int .i64 ((2 ^ i : Nat) : Int))) w) : wpList P ops Q (o :: rest) a w := wpl_wanted hw fun K hK => wpK_shl1 t t' y hop i hi hy (hK _ _ h)
theorem wpl_index_bs (hw : Region.wanted o (yielded ops a.tmps) = true) (t e : TypeId) (m : Nat) (x i : Operand) (hop : o.op = .indexAddr t x i) (ht : P.underlying t = some (.slice e)) (hs : (P.info? e).map (·.size) = some m) (hm : m ≠ 0) (b n c k : Nat) (kd : IntKind)
    (hx : a.eval x = .slice (some ⟨b, 0, none⟩) n c) (hi : a.eval i = .int kd (k : Int)) (hk : k < n) (h : wpList P ops Q rest (a.put o.dst (.pointer (some ⟨b, k * m, none⟩))) w) : wpList P ops Q (o :: rest) a w := by
  refine wpl_wanted hw fun K hK => ?_
  have hK := hK _ _ h
  obtain ⟨ie, hie, hse⟩ := Option.map_eq_some_iff.1 hs
  have e2 : (if k * m = 0 then (⟨b, 0, none⟩ : Addr) else ⟨b, k * m, none⟩) = ⟨b, k * m, none⟩ := by
    split
    · rename_i h0; rw [h0]
    · rfl
  unfold Oper.wp execOp
  simp [hop, hx, hi, Instr.indexAt, run_underlying ht w, asIntOf, Sem.run_bind, sizeOf, typeInfo, hie, hse, hk, Oper.upon, Addr.add]
  have e3 : (if k = 0 ∨ m = 0 then (⟨b, 0, none⟩ : Addr) else ⟨b, k * m, none⟩) = ⟨b, k * m, none⟩ := by
    by_cases h0 : k = 0
    · subst h0; simp
    · rw [if_neg (by omega)]
  first | exact hK | (rw [e3]; exact hK) | (rw [e2]; exact hK)
theorem wpl_load_bs (hw : Region.wanted o (yielded ops a.tmps) = true) (ty : TypeId) (x : Operand) (ho : o.op = .load ty x) (m g off : Nat) (hx : a.eval x = .pointer (some ⟨g, off, none⟩)) (f : Nat → Int) (hc : ∀ j, j < m → w.cell? ⟨g, off + j, none⟩ = some (.int .u8 (f j))) (e : Nat)
    (hu : P.underlying ty = some (.array m e)) (hi : (P.info? ty).map (·.size) = some m) (h : wpList P ops Q rest (a.put o.dst (.agg (u8s m f))) w) : wpList P ops Q (o :: rest) a w := by
  refine wpl_wanted hw fun K hK => ?_
  have hr := run_loadVar_mid (P := P) w g off ty ((List.range m).map (fun j => Value.int .u8 (f j))) (.array m e) (fun j v hv => by
    rw [List.getElem?_map] at hv
    obtain ⟨q, hq, rfl⟩ := Option.map_eq_some_iff.1 hv
    have hjn : j < m := by
      have := (List.getElem?_eq_some_iff.1 hq).1
      simpa using this
    rw [List.getElem?_range hjn] at hq
    obtain rfl := Option.some.inj hq
    exact hc j hjn) hu rfl (by simpa using hi)
  unfold Oper.wp execOp
  simp only [ho, hx, Instr.loadAt, Instr.sureAddr, Sem.run_bind, Sem.run_pure, Result.andThen_ok, hr]
  exact hK _ _ h
end
theorem ones_zero : ∀ f, ones f 0 = 0
  | 0 => rfl
  | f + 1 => by show 0 % 2 + ones f (0 / 2) = 0; rw [Nat.zero_div, ones_zero f]
set_option maxHeartbeats 1000000 in
theorem l05Ones_any (m : Nat) (w : World) (hm : m < 64) : Calls Try.prog 83 #[.int .i64 m] w fun e w' => e = .returned (.int .i64 (ones 6 m : Nat)) ∧ Below w.heap.size w w' := by
  go_enter Try.func83, Try.ntmps83
  go_wp2_with fail
  go_loopw [0, 3] (fun vm vo wr => ∃ (f x y : Nat), vm = .int .i64 (x : Int) ∧ vo = .int .i64 (y : Int) ∧ f ≤ 6 ∧ x < 2 ^ f ∧ Hid (y + ones f x = ones 6 m) ∧ y ≤ 6 - f ∧ Below w.heap.size w wr) (fun vm _ _ => (intOf vm).toNat)
  case atStart => exact ⟨6, m, 0, rfl, rfl, Nat.le_refl _, hm, Lib.hid (Nat.zero_add _), by omega, Below.refl _ _⟩
  case round =>
    obtain ⟨f, x, y, rfl, rfl, hf, hx, hy, hyl, hb⟩ := hrel
    have h64 : 2 ^ f ≤ 2 ^ 6 := Nat.pow_le_pow_right (by omega) hf
    by_cases h0 : x = 0
    · subst h0
      have hfin := Lib.hid (by have := hy.out; rw [ones_zero] at this; exact this : y = ones 6 m)
      simp only [Int.natCast_zero]
      clear hy
      go_wp2_with fail
      go_ret
      exact ⟨congrArg (fun q : Nat => Ending.returned (.int .i64 (q : Int))) hfin.out, hb⟩
    · obtain ⟨f, rfl⟩ : ∃ k, f = k + 1 := ⟨f - 1, by rcases f with _ | f; exfalso; simp at hx; omega; omega⟩
      have h1 : ((x : Int)).tmod 2 = ((x % 2 : Nat) : Int) := by rw [Int.tmod_eq_emod_of_nonneg (by omega)]; omega
      have h2 : ((x : Int)).tdiv 2 = ((x / 2 : Nat) : Int) := by rw [Int.tdiv_eq_ediv_of_nonneg (by omega)]; omega
      have hx0 : (0 : Int) < (x : Int) := by omega
      have hx6 : (x : Int) < 64 := by omega
      have hy6 : (y : Int) ≤ 6 := by omega
      have hx2 : x / 2 < 2 ^ f := by rw [Nat.pow_succ] at hx; omega
      have hm2 : ((x % 2 : Nat) : Int) ≤ 1 := by omega
      have hnx := Lib.hid (by have := hy.out; have e : ones (f + 1) x = x % 2 + ones f (x / 2) := rfl; omega : y + x % 2 + ones f (x / 2) = ones 6 m)
      have hyn : y + x % 2 ≤ 6 - f := by omega
      obtain ⟨q, hq⟩ : ∃ q, x / 2 = q := ⟨_, rfl⟩
      obtain ⟨r, hr⟩ : ∃ r, x % 2 = r := ⟨_, rfl⟩
      rw [hr] at h1 hnx hyn hm2
      rw [hq] at h2 hx2 hnx
      have hqx : q < x := by omega
      clear hy hx h0 hq hr h64
      go_wp2_with fail
      go_roundw
      case rel => exact ⟨f, q, y + r, rfl, by go_num, by omega, hx2, hnx, hyn, hb⟩
      case measure => simp [intOf] <;> omega
end Go.Proofs.Ytnkkkgaojhkniab

/- Walks: the reference's determinants of parts of a table. -/
namespace Go.Proofs.Ytnkkkgaojhkniab
open Go.RowKit
theorem low_eqpL {p : Int} {N : Nat} {f : PS} (h : Ln p N f) : Eqp p (cf (low p N f)) f := fun i => by
  unfold low; rw [mkp_cf]; split
  · exact Int.emod_emod_of_dvd _ (Int.dvd_refl p)
  · rw [h i (by omega)]; exact Int.zero_emod p
/-- A determinant as a polynomial. -/
def minP (p : Int) (E : MxL) (R C : List Nat) : List Int := low p 8 (det (cfm E) R C)
section
variable {p : Int} {n : Nat} {E : MxL}
theorem minP_ok (hp : Pr p) (hn : n ≤ 6) (hE : ∀ i j, i < n → j < n → Po p (E i j) ∧ (E i j).length ≤ 2) {R C : List Nat} (hR : ∀ i ∈ R, i < n) (hC : ∀ i ∈ C, i < n) (hl : R.length ≤ 6) :
    Po p (minP p E R C) ∧ (minP p E R C).length ≤ R.length + 1 ∧ Eqp p (cf (minP p E R C)) (det (cfm E) R C) := by
  have hp2 := hp.pos
  have h1 := det_two (p := p) (a := cfm E) (S := (· < n)) (fun i j hi hj => (Ln.of_list p (E i j)).le (hE i j hi hj).2) R C hR hC
  have h2 := low_eqpL (h1.le (by omega : R.length + 1 ≤ 8))
  have h3 : Po p (minP p E R C) := low_Po (by omega) _ _
  exact ⟨h3, Ln.len h3 (h1.eqp h2), h2⟩
theorem minP_only (hp : Pr p) (hn : n ≤ 6) (hE : ∀ i j, i < n → j < n → Po p (E i j) ∧ (E i j).length ≤ 2) {R C : List Nat} (hR : ∀ i ∈ R, i < n) (hC : ∀ i ∈ C, i < n) (hl : R.length ≤ 6) {O : List Int} (hO : Po p O) (h : Eqp p (det (cfm E) R C) (cf O)) : O = minP p E R C := by
  obtain ⟨h1, _, h3⟩ := minP_ok hp hn hE hR hC hl
  exact hO.eq_of_eqp h1 (h.symm.trans h3.symm)
theorem minP_nil (hp : Pr p) (hn : n ≤ 6) (hE : ∀ i j, i < n → j < n → Po p (E i j) ∧ (E i j).length ≤ 2) {C : List Nat} (hC : ∀ i ∈ C, i < n) : [1] = minP p E [] C :=
  minP_only hp hn hE (fun i h => by cases h) hC (by simp) (one_Po hp.pos.1) (Eqp.of_eq (by rw [det_nil, cf_one]))
/-- What is summed up ahead of column j. -/
def MinI (p : Int) (E : MxL) (i : Nat) (R : List Nat) (n c j : Nat) (s : Int) (O : List Int) : Prop :=
  Eqp p (det (cfm E) (i :: R) (bits n c)) (padd (cf O) (psmul s (alt (fun x X => pmul (cf (E i x)) (det (cfm E) R (bitsA 0 j c ++ X))) (bitsA j (n - j) c))))
theorem MinI.start {i c : Nat} {R : List Nat} : MinI p E i R n c 0 1 [] := by
  unfold MinI
  rw [cf_nil_zero, pzero_padd, psmul_one]
  exact Eqp.refl _
theorem MinI.skip {i c j : Nat} {R : List Nat} {s : Int} {O : List Int} (h : MinI p E i R n c j s O) (hj : j < n) (hb : bt c j = false) : MinI p E i R n c (j + 1) s O := by
  unfold MinI at *
  rw [show n - j = (n - (j + 1)) + 1 by omega, bitsA_cons, hb, if_neg (by simp)] at h
  have e : bitsA 0 (j + 1) c = bitsA 0 j c := by
    rw [bitsA_split 0 (j + 1) j c (by omega), Nat.zero_add, show j + 1 - j = 0 + 1 by omega, bitsA_cons, hb, if_neg (by simp), bitsA_nil, List.append_nil]
  rw [e]; exact h
theorem MinI.step (hp : Pr p) (hn : n ≤ 6) {i c j : Nat} {R : List Nat} {s : Int} {O D : List Int} (h : MinI p E i R n c j s O) (hc : c < 2 ^ n) (hj : j < n) (hb : bt c j = true) (hD : Eqp p (cf D) (pmul (cf (E i j)) (det (cfm E) R (bits n (c - 2 ^ j))))) : MinI p E i R n c (j + 1) (-s) (addp p O D s) := by
  unfold MinI at *
  have e : bitsA 0 (j + 1) c = bitsA 0 j c ++ [j] := by
    rw [bitsA_split 0 (j + 1) j c (by omega), Nat.zero_add, show j + 1 - j = 0 + 1 by omega, bitsA_cons, hb, if_pos rfl, bitsA_nil]
  rw [show n - j = (n - (j + 1)) + 1 by omega, bitsA_cons, hb, if_pos rfl] at h
  rw [bits_less hn hc hj hb] at hD
  refine h.trans ?_
  refine Eqp.trans ?_ (Eqp.add (addp_eqp p O D s).symm (Eqp.refl _))
  refine Eqp.trans ?_ (Eqp.add (Eqp.add (Eqp.refl _) (Eqp.smul hD.symm)) (Eqp.refl _))
  refine Eqp.of_eq ?_
  rw [e]
  have e2 : (fun x X => pmul (cf (E i x)) (det (cfm E) R ((bitsA 0 j c ++ [j]) ++ X))) = (fun x X => pmul (cf (E i x)) (det (cfm E) R (bitsA 0 j c ++ j :: X))) := by
    funext x X; rw [List.append_assoc]; rfl
  rw [e2]
  show padd (cf O) (psmul s (psb (pmul (cf (E i j)) (det (cfm E) R (bitsA 0 j c ++ bitsA (j + 1) (n - (j + 1)) c))) (alt (fun x X => pmul (cf (E i x)) (det (cfm E) R (bitsA 0 j c ++ j :: X))) (bitsA (j + 1) (n - (j + 1)) c)))) = _
  funext m
  show cf O m + s * (_ + -1 * _) = cf O m + s * _ + -s * _
  rw [Int.mul_add, Int.neg_mul 1, Int.one_mul, Int.mul_neg, Int.neg_mul, Int.add_assoc]
theorem MinI.void (hp : Pr p) (hn : n ≤ 6) {i c j : Nat} {R : List Nat} {s : Int} {O : List Int} (h : MinI p E i R n c j s O) (hO : Po p O) (hc : c < 2 ^ n) (hj : j < n) (hb : bt c j = true) (hE : E i j = []) : MinI p E i R n c (j + 1) (-s) O := by
  have hp2 := hp.pos
  have h1 := h.step hp hn (D := []) hc hj hb (by rw [hE, cf_nil_zero, pzero_mul]; exact Eqp.refl _)
  have e : addp p O [] s = O := (addp_Po (by omega) _ _ _).ext hO fun m => by rw [addp_cf, cf_nil, Int.mul_zero, Int.add_zero, Int.emod_eq_of_lt (hO.md m).1 (hO.md m).2]
  rwa [e] at h1
theorem MinI.done {i c : Nat} {R : List Nat} {s : Int} {O : List Int} (h : MinI p E i R n c n s O) : Eqp p (det (cfm E) (i :: R) (bits n c)) (cf O) := by
  unfold MinI at h
  rw [Nat.sub_self, bitsA_nil] at h
  refine h.trans (Eqp.of_eq ?_)
  show padd (cf O) (psmul s pzero) = cf O
  rw [psmul_pzero, padd_pzero]
end
theorem bits_len (n m : Nat) : (bits n m).length ≤ n := by
  unfold bits bitsA
  refine Nat.le_trans (List.length_filter_le _ _) ?_
  rw [List.length_range']; exact Nat.le_refl n
set_option maxRecDepth 20000 in
set_option maxHeartbeats 8000000 in
theorem l05Minor_any (E : MxL) (p : Int) (n : Nat) (hp : Pr p) (hn : n ≤ 6) (hE : ∀ i j, i < n → j < n → Po p (E i j) ∧ (E i j).length ≤ 2) : ∀ (k rows cols : Nat) (v : Value) (w : World), rows < 2 ^ n → cols < 2 ^ n → (bits n rows).length = k → (bits n cols).length = k → TabS w v n E →
    Calls Try.prog 85 #[.int .i64 p, v, .int .i64 rows, .int .i64 cols] w fun e w' => e = .returned (.agg (u8s 64 (cf (minP p E (bits n rows) (bits n cols))))) ∧ Below w.heap.size w w' := by
  have hp2 := hp.pos
  have hpH := Lib.hid hp
  have hEH := Lib.hid hE
  have h64 : 2 ^ n ≤ 2 ^ 6 := Nat.pow_le_pow_right (by omega) hn
  clear hp hE
  intro k
  induction k with
  | zero =>
    intro rows cols v w hr hc hlr hlc hT
    have hr0 : rows = 0 := Classical.byContradiction fun h => by
      obtain ⟨i, h1, h2, h3⟩ := bits_pos hn hr h
      rw [bits_first hn hr h1 h2 h3] at hlr
      simp at hlr
    subst hr0
    have hval := Lib.hid (by rw [bits_zero]; exact minP_nil hpH.out hn hEH.out (fun i hi => bits_mem hi) : [1] = minP p E (bits n 0) (bits n cols))
    have hZ := Blk.new w (u8s 64 fun _ => 0) 25
    have hb0 := below_new w (.cells (u8s 64 fun _ => 0) 25)
    obtain ⟨g, c, Rl, rfl, _, _⟩ := hT
    simp only [Int.natCast_zero]
    go_enter Try.func85, Try.ntmps85
    go_wp2_with ((with_reducible refine wpl_guard ?_); first | (refine wpl_alloc_arr rfl 25 rfl _ zPoly ?_))
    refine (l01One_any _).mono ?_
    rintro e w1 ⟨rfl, hn1⟩
    replace hZ := hZ.keep hn1
    replace hb0 := below_step hb0 hn1
    clear hn1
    go_wp2_with ((with_reducible refine wpl_guard ?_); first | (refine wpl_store_arr rfl 25 _ _ rfl _ rfl _ rfl _ _ hZ sPoly (by simp only [u8s_size]) (u8s_oneCell _ _) ?_))
    exact bodyPost_ret (res_c rfl rfl (hZ.setRow_same (cs := u8s 64 (cf [1]))) uPoly sPoly) rfl ⟨by rw [hval.out], below_setRow hb0 (by omega) _⟩
  | succ k ih =>
    intro rows cols v w hr hc hlr hlc hT
    have ihH := Lib.hid ih
    clear ih
    have hr0 : rows ≠ 0 := fun h => by rw [h, bits_zero] at hlr; simp at hlr
    obtain ⟨i0, hi1, hi2, hi3⟩ := bits_pos hn hr hr0
    have hfst := Lib.hid (bits_first hn hr hi1 hi2 hi3)
    have hlr' := Lib.hid (by have := hlr; rw [hfst.out] at this; simpa using this : (bits n (rows - 2 ^ i0)).length = k)
    have hrle := Lib.hid (bt_le (by omega) (by omega) hi2)
    have hk6 : k + 1 ≤ 6 := by have := bits_len n rows; omega
    have hr0I : ((rows : Int) == 0) = false := by rw [beq_eq_false_iff_ne]; omega
    have hZ := Blk.new w (u8s 64 fun _ => 0) 25
    have hb0 := below_new w (.cells (u8s 64 fun _ => 0) 25)
    obtain ⟨g, c9, Rl, rfl, hTc, hTr⟩ := hT
    have hTcH := Lib.hid hTc
    have hTrH := Lib.hid hTr
    have hlcH := Lib.hid hlc
    have hi2H := Lib.hid hi2
    have hi3H := Lib.hid hi3
    have hrH := Lib.hid hr
    have hcH := Lib.hid hc
    have h64H := Lib.hid h64
    have hr64 : rows < 64 := by omega
    have hc64 : cols < 64 := by omega
    clear hTc hTr hlr hlc hi2 hi3 hr hc hr0 h64
    go_enter Try.func85, Try.ntmps85
    go_wp2_with ((with_reducible refine wpl_guard ?_); first | (refine wpl_alloc_arr rfl 25 rfl _ zPoly ?_))
    go_loopw [9] (fun iv wr => ∃ i : Nat, iv = .int .i64 (i : Int) ∧ i ≤ i0 ∧ Blk wr w.heap.size (u8s 64 fun _ => 0) 25 ∧ Below w.heap.size w wr) (fun iv _ => i0 - (intOf iv).toNat)
    case atStart => exact ⟨0, rfl, by omega, hZ, hb0⟩
    case round =>
      clear hZ hb0
      obtain ⟨i, rfl, hii, hZ, hb⟩ := hrel
      obtain ⟨q, hq⟩ : ∃ q, rows / 2 ^ i = q := ⟨_, rfl⟩
      have hq64 : q < 64 := by rw [← hq]; exact Nat.lt_of_le_of_lt (Nat.div_le_self _ _) hr64
      have hqH := Lib.hid hq
      obtain ⟨b, hb2⟩ : ∃ b, q % 2 = b := ⟨_, rfl⟩
      have hb2H := Lib.hid hb2
      clear hq hb2
      by_cases hlt : i < i0
      · have hbit : ((b : Int) == 0) = true := by
          have := hi3H.out i hlt
          unfold bt at this
          have h2 := of_decide_eq_false this
          rw [hqH.out, hb2H.out] at h2
          have h4 := hb2H.out
          have h3 : b = 0 := by omega
          rw [h3]; rfl
        go_wp2_with ((with_reducible refine wpl_guard ?_); first | (refine wpl_shr rfl _ _ _ _ rfl rows i rfl rfl (by omega) q hqH.out ?_) | (refine wpl_and1 rfl _ _ _ rfl q hq64 rfl b hb2H.out ?_))
        go_roundw
        case rel => exact ⟨i + 1, by go_num, by omega, hZ, hb⟩
        case measure => simp [intOf] <;> omega
      · obtain rfl : i0 = i := by omega
        have hbit : ((b : Int) == 0) = false := by
          have := hi2H.out
          unfold bt at this
          have h2 := of_decide_eq_true this
          rw [hqH.out, hb2H.out] at h2
          rw [h2]; rfl
        go_upto_region 6 with ((with_reducible refine wpl_guard ?_); first | (refine wpl_shr rfl _ _ _ _ rfl rows i0 rfl rfl (by omega) q hqH.out ?_) | (refine wpl_and1 rfl _ _ _ rfl q hq64 rfl b hb2H.out ?_))
        rename World => w0
        have hO := Blk.new w0 (u8s 64 fun _ => 0) 25
        have hnn := below_new w0 (.cells (u8s 64 fun _ => 0) 25)
        have hgZ := hZ.lt
        replace hZ := hZ.keep hnn
        replace hb := below_step hb hnn
        have hv0 := Lib.hid (u8s_ext fun j _ => (cf_nil j).symm : u8s 64 (fun _ => 0) = u8s 64 (cf []))
        clear hnn hbit hq64 hqH hb2H
        go_upto_region 7 with ((with_reducible refine wpl_guard ?_); first | (refine wpl_build_zero rfl 25 64 5 rfl _ uPoly sByte zPoly ?_) | (refine wpl_alloc_arr rfl 25 rfl _ zPoly ?_) | (refine wpl_store_new rfl 25 _ _ rfl _ rfl rfl _ rfl sPoly (by simp only [u8s_size]) (u8s_oneCell _ _) ?_))
        generalize World.alloc w0 (.cells (u8s 64 fun _ => 0) 25) = wa at *
        rw [hv0.out] at hO
        obtain ⟨gO, hgO⟩ : ∃ q, w0.heap.size = q := ⟨_, rfl⟩
        rw [hgO] at hO hgZ ⊢
        clear hgO hv0
        go_wp2_with fail
        go_loopw [11, 12] (fun vs vj wr => ∃ (j : Nat) (s : Int) (O : List Int), (s = 1 ∨ s = -1) ∧ vs = .int .i64 s ∧ vj = .int .i64 (j : Int) ∧ j ≤ n ∧ Blk wr gO (u8s 64 (cf O)) 25 ∧ Po p O ∧ O.length ≤ 8 ∧ Hid (MinI p E i0 (bits n (rows - 2 ^ i0)) n cols j s O) ∧ Blk wr w.heap.size (u8s 64 fun _ => 0) 25 ∧ Below w.heap.size w wr) (fun _ vj _ => n - (intOf vj).toNat)
        case atStart => exact ⟨0, 1, [], .inl rfl, rfl, rfl, by omega, hO, Po_nil (by omega), by simp, Lib.hid (by have := MinI.start (p := p) (E := E) (i := i0) (c := cols) (R := bits n (rows - 2 ^ i0)) (n := n); exact this), hZ, hb⟩
        case round =>
          clear hO hZ hb
          obtain ⟨j, s, O, hs, rfl, rfl, hj, hO, hPO, hOl, hI, hZ, hb⟩ := hrel
          have hs0 : -1 ≤ s ∧ s ≤ 1 := by omega
          obtain ⟨hs1, hs2⟩ := hs0
          have hsH := Lib.hid hs
          clear hs
          rename World => wr
          by_cases hjn : j < n
          · have hjI : (j : Int) < (n : Int) := by omega
            obtain ⟨q2, hq2⟩ : ∃ q, cols / 2 ^ j = q := ⟨_, rfl⟩
            have hq264 : q2 < 64 := by rw [← hq2]; exact Nat.lt_of_le_of_lt (Nat.div_le_self _ _) hc64
            obtain ⟨b2, hb2⟩ : ∃ b, q2 % 2 = b := ⟨_, rfl⟩
            have hq2H := Lib.hid hq2
            have hb2H := Lib.hid hb2
            have hbt : bt cols j = decide (b2 = 1) := by unfold bt; rw [hq2, hb2]
            have hbtH := Lib.hid hbt
            have hb2l : b2 < 2 := by rw [← hb2]; exact Nat.mod_lt _ (by decide)
            clear hq2 hb2 hbt
            by_cases hb20 : b2 = 0
            · have hbit : ((b2 : Int) == 0) = true := by rw [hb20]; rfl
              have hI2 := Lib.hid (hI.out.skip hjn (by rw [hbtH.out]; exact decide_eq_false (by omega)))
              clear hI hb20 hb2l hbtH
              go_wp2_with ((with_reducible refine wpl_guard ?_); first | (refine wpl_shr rfl _ _ _ _ rfl cols j rfl rfl (by omega) q2 hq2H.out ?_) | (refine wpl_and1 rfl _ _ _ rfl q2 hq264 rfl b2 hb2H.out ?_))
              go_roundw
              case rel => exact ⟨j + 1, s, O, hsH.out, rfl, by go_num, by omega, hO, hPO, hOl, hI2, hZ, hb⟩
              case measure => simp [intOf] <;> omega
            · have hbit : ((b2 : Int) == 0) = false := by rw [beq_eq_false_iff_ne]; omega
              have hbT := Lib.hid (by rw [hbtH.out]; exact decide_eq_true (by omega) : bt cols j = true)
              have hcle := Lib.hid (bt_le hc64 (by omega) hbT.out)
              have c1 : wr.cell? ⟨g, i0, none⟩ = some (Rl i0) := cell_below (hTcH.out i0 hi1) hb
              obtain ⟨bi, ci, hRe, hcl'⟩ := hTrH.out i0 hi1
              rw [hRe] at c1
              have hcl := Lib.hid (fun q (hq : q < 64) => cell_below (hcl' j hjn q hq) hb)
              have hiI : (i0 : Int) < (n : Int) := by omega
              have hTb' : TabS wr (.slice (some ⟨g, 0, none⟩) n c9) n E := ⟨g, c9, Rl, rfl, fun i0 hi => cell_below (hTcH.out i0 hi) hb, fun i0 hi => (hTrH.out i0 hi).below hb⟩
              have hTb := Lib.hid hTb'
              clear hTb'
              obtain ⟨hEP, hEl⟩ := hEH.out i0 j hi1 hjn
              have hE64 : P64 p (E i0 j) := ⟨hpH.out, hEP, by omega⟩
              have hdeg := Lib.hid (fun w => l01Deg_list p (E i0 j) w hE64)
              obtain ⟨Le, hLe⟩ : ∃ L, (E i0 j).length = L := ⟨_, rfl⟩
              rw [hLe] at hdeg
              have hLeH := Lib.hid hLe
              have hRm := Lib.hid (fun i0 (h : i0 ∈ bits n (rows - 2 ^ i0)) => (bits_mem h : i0 < n))
              clear hcl' hRe hLe hb20 hb2l hbtH
              go_wp2_with ((with_reducible refine wpl_guard ?_); first | (refine wpl_shr rfl _ _ _ _ rfl cols j rfl rfl (by omega) q2 hq2H.out ?_) | (refine wpl_and1 rfl _ _ _ rfl q2 hq264 rfl b2 hb2H.out ?_) | (refine wpl_index_bs rfl 38 25 64 _ _ rfl uTlnT sPoly (by decide) bi n ci j .i64 rfl rfl hjn ?_) | (refine wpl_load_bs rfl 25 _ rfl 64 bi (j * 64) rfl (cf (E i0 j)) hcl.out 5 uPoly sPoly ?_))
              refine (hdeg.out _).mono ?_
              rintro e w2 ⟨rfl, hn2⟩
              by_cases hz : Le = 0
              · have hge : ¬ ((0 : Int) ≤ (Le : Int) - 1) := by rw [hz]; decide
                have hI2 := Lib.hid (hI.out.void hpH.out hn hPO hcH.out hjn hbT.out (List.length_eq_zero_iff.1 (hLeH.out.trans hz)))
                replace hO := hO.keep hn2
                replace hZ := hZ.keep hn2
                replace hb := below_step hb hn2
                subst hz
                clear hI hdeg c1 hcl hTb hn2
                go_wp2_with ((with_reducible refine wpl_guard ?_); first | (refine wpl_neg rfl _ _ rfl s rfl (by omega) (by omega) ?_))
                go_roundw
                case rel => exact ⟨j + 1, -s, O, by have := hsH.out; omega, rfl, by go_num, by omega, hO, hPO, hOl, hI2, hZ, hb⟩
                case measure => simp [intOf] <;> omega
              · have hge : (0 : Int) ≤ (Le : Int) - 1 := by omega
                have hlc2 := Lib.hid (by
                  have h1 := hlcH.out
                  unfold bits at h1
                  rw [bitsA_split 0 n j _ (by omega), Nat.zero_add, show n - j = (n - (j + 1)) + 1 by omega, bitsA_cons, hbT.out, if_pos rfl] at h1
                  rw [bits_less hn hcH.out hjn hbT.out]
                  simp only [List.length_append, List.length_cons] at h1 ⊢
                  omega : (bits n (cols - 2 ^ j)).length = k)
                obtain ⟨hm1, hm2, hm3⟩ := minP_ok hpH.out hn hEH.out (R := bits n (rows - 2 ^ i0)) (C := bits n (cols - 2 ^ j)) (fun i0 h => bits_mem h) (fun i0 h => bits_mem h) (by rw [hlr'.out]; omega)
                rw [hlr'.out] at hm2
                have hmin := Lib.hid (fun w3 (hT : TabS w3 (.slice (some ⟨g, 0, none⟩) n c9) n E) => ihH.out (rows - 2 ^ i0) (cols - 2 ^ j) _ w3 (Nat.lt_of_le_of_lt (Nat.sub_le _ _) hrH.out) (Nat.lt_of_le_of_lt (Nat.sub_le _ _) hcH.out) hlr'.out hlc2.out hT)
                obtain ⟨D, hD⟩ : ∃ D, minP p E (bits n (rows - 2 ^ i0)) (bits n (cols - 2 ^ j)) = D := ⟨_, rfl⟩
                rw [hD] at hm1 hm2 hm3 hmin
                have hMDl := mkp_length ((E i0 j).length + D.length) (fun m => pmul (cf (E i0 j)) (cf D) m % p)
                have hMDl2 : (mulp p (E i0 j) D).length ≤ 8 := by show (mkp _ _).length ≤ _; omega
                have hMDP : Po p (mulp p (E i0 j) D) := mulp_Po (by omega) _ _
                have htm := Lib.hid (fun w3 => l01Times_in (E i0 j) D p w3 hE64 ⟨hpH.out, hm1, by omega⟩ (by omega))
                have hI2 := Lib.hid (hI.out.step hpH.out hn hcH.out hjn hbT.out ((mulp_eqp p (E i0 j) D).trans (Eqp.mul (Eqp.refl _) hm3)))
                have hadd := Lib.hid (fun w3 => l01Add_list O (mulp p (E i0 j) D) p s w3 ⟨hpH.out, hPO, by omega⟩ ⟨hpH.out, hMDP, by omega⟩ (by omega) (by omega))
                have hO2P : Po p (addp p O (mulp p (E i0 j) D) s) := addp_Po (by omega) _ _ _
                have hO2l : (addp p O (mulp p (E i0 j) D) s).length ≤ 8 := by have := addp_length p O (mulp p (E i0 j) D) s; omega
                obtain ⟨MD, hMD⟩ : ∃ X, mulp p (E i0 j) D = X := ⟨_, rfl⟩
                rw [hMD] at htm hadd hI2 hO2P hO2l
                have c2 := cell_below c1 hn2
                have hcl2 := Lib.hid (fun q (hq : q < 64) => cell_below (hcl.out q hq) hn2)
                have hT2 := Lib.hid (hTb.out.below hn2)
                replace hO := hO.keep hn2
                replace hZ := hZ.keep hn2
                replace hb := below_step hb hn2
                have hrle2 := hrle.out
                have hcle2 := hcle.out
                have h2i : 2 ^ i0 ≤ 64 := Nat.le_trans hrle2 (by omega)
                have h2j : 2 ^ j ≤ 64 := Nat.le_trans hcle2 (by omega)
                have hrleH := Lib.hid hrle2
                have hcleH := Lib.hid hcle2
                clear hI hdeg c1 hcl hTb hn2 hMDl hMDl2 hMDP hm1 hm2 hm3 hD hMD hlc2 hrle2 hcle2 h2i h2j hPO hOl
                go_upto_region 12 with (fail)
                refine law_region2 (by kernel_rfl) (by kernel_rfl) (by kernel_rfl) (by kernel_rfl)
                    (fun i => ([some (.int .i64 p), some (.slice (some ⟨g, 0, none⟩) n c9), some (.int .i64 (i0 : Int)), some (.pointer (some ⟨g, i0, none⟩)), some (.slice (some ⟨bi, 0, none⟩) n ci), some (.int .i64 (j : Int)), some (.pointer (some ⟨bi, j * 64, none⟩)), some (.agg (u8s 64 (cf (E i0 j)))), some (.int .i64 p), some (.slice (some ⟨g, 0, none⟩) n c9), some (.int .i64 (rows : Int)), some (.int .i64 (i0 : Int)), some (.int .u64 (i0 : Int)), some (.int .i64 ((2 ^ i0 : Nat) : Int)), some (.int .i64 ((rows - 2 ^ i0 : Nat) : Int)), some (.int .i64 (cols : Int)), some (.int .i64 (j : Int)), some (.int .u64 (j : Int)), some (.int .i64 ((2 ^ j : Nat) : Int)), some (.int .i64 ((cols - 2 ^ j : Nat) : Int)), some (.agg (u8s 64 (cf D))), some (.tuple #[.agg (u8s 64 (cf MD)), .bool true]), some (.tuple #[.agg (u8s 64 (cf MD)), .bool true]), some (.agg (u8s 64 (cf MD))), some (.bool true), none, none, some (.bool true)] : List (Option Value)).getD i none) 1 (fun zk => [25].getD zk 0) (fun zk => [26].getD zk 0) (fun zk => [23].getD zk 0) (fun zk => [13].getD zk 0) (fun zk => [71].getD zk 0) (fun zk => [64].getD zk 0) (fun zk => [(cf MD)].getD zk (fun _ => 0)) (fun zk => [25].getD zk 0) ?_ ?_ ?_ ?_ ?_ ?_
                · intro i hi
                  rcases i with _|_|_|_|_|_|_|_|_|_|_|_|_|_|_|_|_|_|_|_|_|_|_|_|_|_|_|_|i
                  · exact .inl ⟨_, rfl⟩
                  · exact .inl ⟨_, rfl⟩
                  · exact .inl ⟨_, rfl⟩
                  · exact .inl ⟨_, rfl⟩
                  · exact .inl ⟨_, rfl⟩
                  · exact .inl ⟨_, rfl⟩
                  · exact .inl ⟨_, rfl⟩
                  · exact .inl ⟨_, rfl⟩
                  · exact .inl ⟨_, rfl⟩
                  · exact .inl ⟨_, rfl⟩
                  · exact .inl ⟨_, rfl⟩
                  · exact .inl ⟨_, rfl⟩
                  · exact .inl ⟨_, rfl⟩
                  · exact .inl ⟨_, rfl⟩
                  · exact .inl ⟨_, rfl⟩
                  · exact .inl ⟨_, rfl⟩
                  · exact .inl ⟨_, rfl⟩
                  · exact .inl ⟨_, rfl⟩
                  · exact .inl ⟨_, rfl⟩
                  · exact .inl ⟨_, rfl⟩
                  · exact .inl ⟨_, rfl⟩
                  · exact .inl ⟨_, rfl⟩
                  · exact .inl ⟨_, rfl⟩
                  · exact .inl ⟨_, rfl⟩
                  · exact .inl ⟨_, rfl⟩
                  · exact .inr (.inl ⟨0, by decide, rfl⟩)
                  · exact .inr (.inr ⟨0, by decide, rfl⟩)
                  · exact .inl ⟨_, rfl⟩
                  · simp only [List.length_cons, List.length_nil] at hi; omega
                · intro k hk
                  rcases k with _|k
                  · exact ⟨rfl, rfl, rfl, zPoly⟩
                  · omega
                · intro k hk k' hk'
                  rcases k with _|k
                  all_goals rcases k' with _|k'
                  all_goals first | omega | exact ⟨by decide, by decide, by decide⟩
                · intro k hk
                  rcases k with _|k
                  · kernel_rfl
                  · omega
                · intro i o c ho hc a w9 hBw hrd hpar
                  rcases i with _|_|_|_|_|_|_|_|_|_|_|_|_|_|_|_|_|_|_|_|_|_|_|_|_|_|_|_|i
                  · obtain rfl := Option.some.inj ho
                    obtain rfl := Option.some.inj hc
                    exact wp_move _ (.int .i64 p) rfl (hpar 0 _ (by kernel_rfl) (by kernel_rfl))
                  · obtain rfl := Option.some.inj ho
                    obtain rfl := Option.some.inj hc
                    exact wp_move _ (.slice (some ⟨g, 0, none⟩) n c9) rfl (hpar 1 _ (by kernel_rfl) (by kernel_rfl))
                  · obtain rfl := Option.some.inj ho
                    obtain rfl := Option.some.inj hc
                    exact wp_move _ (.int .i64 (i0 : Int)) rfl (hpar 9 _ (by kernel_rfl) (by kernel_rfl))
                  · obtain rfl := Option.some.inj ho
                    obtain rfl := Option.some.inj hc
                    exact wp_index_row1 71 38 _ _ rfl uTabT sTlnT g n c9 i0 .i64 (hrd 1 _ _ 50 rfl rfl rfl (by kernel_rfl) (by kernel_rfl)) (hrd 2 _ _ 51 rfl rfl rfl (by kernel_rfl) (by kernel_rfl)) hi1
                  · obtain rfl := Option.some.inj ho
                    obtain rfl := Option.some.inj hc
                    exact wp_load_slice 38 25 _ rfl _ (hrd 3 _ _ 52 rfl rfl rfl (by kernel_rfl) (by kernel_rfl)) uTlnT _ (cell_below c2 hBw)
                  · obtain rfl := Option.some.inj ho
                    obtain rfl := Option.some.inj hc
                    exact wp_move _ (.int .i64 (j : Int)) rfl (hpar 12 _ (by kernel_rfl) (by kernel_rfl))
                  · obtain rfl := Option.some.inj ho
                    obtain rfl := Option.some.inj hc
                    exact wp_index_bs 38 25 64 _ _ rfl uTlnT sPoly (by decide) bi n ci j .i64 (hrd 4 _ _ 53 rfl rfl rfl (by kernel_rfl) (by kernel_rfl)) (hrd 5 _ _ 54 rfl rfl rfl (by kernel_rfl) (by kernel_rfl)) hjn
                  · obtain rfl := Option.some.inj ho
                    obtain rfl := Option.some.inj hc
                    exact wp_load_bs 25 _ rfl 64 bi (j * 64) (hrd 6 _ _ 55 rfl rfl rfl (by kernel_rfl) (by kernel_rfl)) (cf (E i0 j)) (fun q hq => cell_below (hcl2.out q hq) hBw) 5 uPoly sPoly
                  · obtain rfl := Option.some.inj ho
                    obtain rfl := Option.some.inj hc
                    exact wp_move _ (.int .i64 p) rfl (hpar 0 _ (by kernel_rfl) (by kernel_rfl))
                  · obtain rfl := Option.some.inj ho
                    obtain rfl := Option.some.inj hc
                    exact wp_move _ (.slice (some ⟨g, 0, none⟩) n c9) rfl (hpar 1 _ (by kernel_rfl) (by kernel_rfl))
                  · obtain rfl := Option.some.inj ho
                    obtain rfl := Option.some.inj hc
                    exact wp_move _ (.int .i64 (rows : Int)) rfl (hpar 2 _ (by kernel_rfl) (by kernel_rfl))
                  · obtain rfl := Option.some.inj ho
                    obtain rfl := Option.some.inj hc
                    exact wp_move _ (.int .i64 (i0 : Int)) rfl (hpar 9 _ (by kernel_rfl) (by kernel_rfl))
                  · obtain rfl := Option.some.inj ho
                    obtain rfl := Option.some.inj hc
                    exact wp_convU _ _ _ rfl i0 (hrd 11 _ _ 60 rfl rfl rfl (by kernel_rfl) (by kernel_rfl)) (by omega) Try.underlying2 Try.underlying100
                  · obtain rfl := Option.some.inj ho
                    obtain rfl := Option.some.inj hc
                    exact wpK_shl1 _ _ _ rfl i0 (by omega) (hrd 12 _ _ 61 rfl rfl rfl (by kernel_rfl) (by kernel_rfl)) ⟨rfl, Below.refl _ _⟩
                  · obtain rfl := Option.some.inj ho
                    obtain rfl := Option.some.inj hc
                    exact wpK_subN _ _ _ _ rfl rows (2 ^ i0) (hrd 10 _ _ 59 rfl rfl rfl (by kernel_rfl) (by kernel_rfl)) (hrd 13 _ _ 62 rfl rfl rfl (by kernel_rfl) (by kernel_rfl)) (by omega) hrleH.out ⟨rfl, Below.refl _ _⟩
                  · obtain rfl := Option.some.inj ho
                    obtain rfl := Option.some.inj hc
                    exact wp_move _ (.int .i64 (cols : Int)) rfl (hpar 3 _ (by kernel_rfl) (by kernel_rfl))
                  · obtain rfl := Option.some.inj ho
                    obtain rfl := Option.some.inj hc
                    exact wp_move _ (.int .i64 (j : Int)) rfl (hpar 12 _ (by kernel_rfl) (by kernel_rfl))
                  · obtain rfl := Option.some.inj ho
                    obtain rfl := Option.some.inj hc
                    exact wp_convU _ _ _ rfl j (hrd 16 _ _ 65 rfl rfl rfl (by kernel_rfl) (by kernel_rfl)) (by omega) Try.underlying2 Try.underlying100
                  · obtain rfl := Option.some.inj ho
                    obtain rfl := Option.some.inj hc
                    exact wpK_shl1 _ _ _ rfl j (by omega) (hrd 17 _ _ 66 rfl rfl rfl (by kernel_rfl) (by kernel_rfl)) ⟨rfl, Below.refl _ _⟩
                  · obtain rfl := Option.some.inj ho
                    obtain rfl := Option.some.inj hc
                    exact wpK_subN _ _ _ _ rfl cols (2 ^ j) (hrd 15 _ _ 64 rfl rfl rfl (by kernel_rfl) (by kernel_rfl)) (hrd 18 _ _ 67 rfl rfl rfl (by kernel_rfl) (by kernel_rfl)) (by omega) hcleH.out ⟨rfl, Below.refl _ _⟩
                  · obtain rfl := Option.some.inj ho
                    obtain rfl := Option.some.inj hc
                    exact wp_callB 85 [.tmp 57, .tmp 58, .tmp 63, .tmp 68] _ rfl [.int .i64 p, .slice (some ⟨g, 0, none⟩) n c9, .int .i64 ((rows - 2 ^ i0 : Nat) : Int), .int .i64 ((cols - 2 ^ j : Nat) : Int)] (by simp only [List.map_cons, List.map_nil, (hrd 8 _ _ 57 rfl rfl rfl (by kernel_rfl) (by kernel_rfl)), (hrd 9 _ _ 58 rfl rfl rfl (by kernel_rfl) (by kernel_rfl)), (hrd 14 _ _ 63 rfl rfl rfl (by kernel_rfl) (by kernel_rfl)), (hrd 19 _ _ 68 rfl rfl rfl (by kernel_rfl) (by kernel_rfl))]) Try.call85 _ (hmin.out w9 (hT2.out.below hBw))
                  · obtain rfl := Option.some.inj ho
                    obtain rfl := Option.some.inj hc
                    exact wp_callB 72 [.tmp 49, .tmp 56, .tmp 69] _ rfl [.int .i64 p, .agg (u8s 64 (cf (E i0 j))), .agg (u8s 64 (cf D))] (by simp only [List.map_cons, List.map_nil, (hrd 0 _ _ 49 rfl rfl rfl (by kernel_rfl) (by kernel_rfl)), (hrd 7 _ _ 56 rfl rfl rfl (by kernel_rfl) (by kernel_rfl)), (hrd 20 _ _ 69 rfl rfl rfl (by kernel_rfl) (by kernel_rfl))]) Try.call72 _ (htm.out w9)
                  · obtain rfl := Option.some.inj ho
                    obtain rfl := Option.some.inj hc
                    exact wp_move _ (.tuple #[.agg (u8s 64 (cf MD)), .bool true]) rfl (hrd 21 _ _ 70 rfl rfl rfl (by kernel_rfl) (by kernel_rfl))
                  · obtain rfl := Option.some.inj ho
                    obtain rfl := Option.some.inj hc
                    exact wp_extract _ 0 #[.agg (u8s 64 (cf MD)), .bool true] _ rfl (hrd 22 _ _ 48 rfl rfl rfl (by kernel_rfl) (by kernel_rfl)) rfl
                  · obtain rfl := Option.some.inj ho
                    obtain rfl := Option.some.inj hc
                    exact wp_extract _ 1 #[.agg (u8s 64 (cf MD)), .bool true] _ rfl (hrd 22 _ _ 48 rfl rfl rfl (by kernel_rfl) (by kernel_rfl)) rfl
                  · cases hc
                  · cases hc
                  · obtain rfl := Option.some.inj ho
                    obtain rfl := Option.some.inj hc
                    exact wp_assign _ (.bool true) rfl (hrd 24 _ _ 72 rfl rfl rfl (by kernel_rfl) (by kernel_rfl))
                  · cases hc
                intro vals xJ hBw hc hr
                have e0 : vals 0 = .int .i64 p := hc 0 _ (by simp) rfl
                have e1 : vals 1 = .slice (some ⟨g, 0, none⟩) n c9 := hc 1 _ (by simp) rfl
                have e2 : vals 2 = .int .i64 (i0 : Int) := hc 2 _ (by simp) rfl
                have e3 : vals 3 = .pointer (some ⟨g, i0, none⟩) := hc 3 _ (by simp) rfl
                have e4 : vals 4 = .slice (some ⟨bi, 0, none⟩) n ci := hc 4 _ (by simp) rfl
                have e5 : vals 5 = .int .i64 (j : Int) := hc 5 _ (by simp) rfl
                have e6 : vals 6 = .pointer (some ⟨bi, j * 64, none⟩) := hc 6 _ (by simp) rfl
                have e7 : vals 7 = .agg (u8s 64 (cf (E i0 j))) := hc 7 _ (by simp) rfl
                have e8 : vals 8 = .int .i64 p := hc 8 _ (by simp) rfl
                have e9 : vals 9 = .slice (some ⟨g, 0, none⟩) n c9 := hc 9 _ (by simp) rfl
                have e10 : vals 10 = .int .i64 (rows : Int) := hc 10 _ (by simp) rfl
                have e11 : vals 11 = .int .i64 (i0 : Int) := hc 11 _ (by simp) rfl
                have e12 : vals 12 = .int .u64 (i0 : Int) := hc 12 _ (by simp) rfl
                have e13 : vals 13 = .int .i64 ((2 ^ i0 : Nat) : Int) := hc 13 _ (by simp) rfl
                have e14 : vals 14 = .int .i64 ((rows - 2 ^ i0 : Nat) : Int) := hc 14 _ (by simp) rfl
                have e15 : vals 15 = .int .i64 (cols : Int) := hc 15 _ (by simp) rfl
                have e16 : vals 16 = .int .i64 (j : Int) := hc 16 _ (by simp) rfl
                have e17 : vals 17 = .int .u64 (j : Int) := hc 17 _ (by simp) rfl
                have e18 : vals 18 = .int .i64 ((2 ^ j : Nat) : Int) := hc 18 _ (by simp) rfl
                have e19 : vals 19 = .int .i64 ((cols - 2 ^ j : Nat) : Int) := hc 19 _ (by simp) rfl
                have e20 : vals 20 = .agg (u8s 64 (cf D)) := hc 20 _ (by simp) rfl
                have e21 : vals 21 = .tuple #[.agg (u8s 64 (cf MD)), .bool true] := hc 21 _ (by simp) rfl
                have e22 : vals 22 = .tuple #[.agg (u8s 64 (cf MD)), .bool true] := hc 22 _ (by simp) rfl
                have e23 : vals 23 = .agg (u8s 64 (cf MD)) := hc 23 _ (by simp) rfl
                have e24 : vals 24 = .bool true := hc 24 _ (by simp) rfl
                have e27 : vals 27 = .bool true := hc 27 _ (by simp) rfl
                obtain ⟨gJ0, p0, hgJ0, hJ0⟩ : ∃ g, vals 25 = .pointer (some ⟨g, 0, none⟩) ∧ _ ≤ g ∧ Blk xJ g (u8s 64 (cf MD)) 25 := hr 0 (by decide)
                simp only [List.length_cons, List.length_nil, Nat.zero_add, Nat.reduceAdd, List.replicate, putAll, if_true, Act.put, List.setIfInBounds_toArray, List.set_cons_zero, List.set_cons_succ, e0, e1, e2, e3, e4, e5, e6, e7, e8, e9, e10, e11, e12, e13, e14, e15, e16, e17, e18, e19, e20, e21, e22, e23, e24, e27, p0]
                replace hO := hO.keep hBw
                replace hZ := hZ.keep hBw
                replace hb := below_step hb hBw
                clear hc hr e0 e1 e2 e3 e4 e5 e6 e7 e8 e9 e10 e11 e12 e13 e14 e15 e16 e17 e18 e19 e20 e21 e22 e23 e24 e27 p0
                clear hBw
                clear hTrH hTcH hcl2 c2 hT2 hmin htm
                go_wp2_with ((with_reducible refine wpl_guard ?_); first | (refine wpl_load_arr rfl 25 _ rfl _ rfl _ _ hO _ _ uPoly sPoly ?_) | (refine wpl_load_arr rfl 25 _ rfl _ rfl _ _ hJ0 _ _ uPoly sPoly ?_))
                refine (hadd.out _).mono ?_
                rintro e w3 ⟨rfl, hn3⟩
                replace hO := hO.keep hn3
                replace hZ := hZ.keep hn3
                replace hb := below_step hb hn3
                clear hn3
                go_wp2_with ((with_reducible refine wpl_guard ?_); first | (refine wpl_store_arr rfl 25 _ _ rfl _ rfl _ rfl _ _ hO sPoly (by simp only [u8s_size]) (u8s_oneCell _ _) ?_) | (refine wpl_neg rfl _ _ rfl s rfl (by omega) (by omega) ?_))
                go_roundw
                case rel => exact ⟨j + 1, -s, addp p O MD s, by have := hsH.out; omega, rfl, by go_num, by omega, hO.setRow_same, hO2P, hO2l, hI2, hZ.setRow_other (by omega), below_setRow hb (by omega) _⟩
                case measure => simp [intOf] <;> omega
          · have ejn : n = j := by omega
            have hval := Lib.hid (by
              have h1 := hI.out
              rw [← ejn] at h1
              have h2 := h1.done
              rw [← hfst.out] at h2
              exact minP_only hpH.out hn hEH.out (fun i0 h => bits_mem h) (fun i0 h => bits_mem h) (by have := bits_len n rows; omega) hPO h2 : O = minP p E (bits n rows) (bits n cols))
            clear hI
            subst ejn
            go_wp2_with ((with_reducible refine wpl_guard ?_); first | (refine wpl_load_arr rfl 25 _ rfl _ rfl _ _ hO _ _ uPoly sPoly ?_) | (refine wpl_store_arr rfl 25 _ _ rfl _ rfl _ rfl _ _ hZ sPoly (by simp only [u8s_size]) (u8s_oneCell _ _) ?_))
            exact bodyPost_ret (res_c rfl rfl (hZ.setRow_same (cs := u8s 64 (cf O))) uPoly sPoly) rfl ⟨by rw [hval.out], below_setRow hb (by omega) _⟩
end Go.Proofs.Ytnkkkgaojhkniab

/- Walks: the reference's greatest common divisors of determinants of parts of a table. -/
namespace Go.Proofs.Ytnkkkgaojhkniab
open Go.RowKit
theorem gcdp_ok {p : Int} (hp : Pr p) {a b : List Int} (ha : Po p a) (hb : Po p b) :
    Po p (gcdp p a b) ∧ ((gcdp p a b).length ≤ a.length ∨ (gcdp p a b).length ≤ b.length) ∧ (gcdp p a b ≠ [] → cf (gcdp p a b) ((gcdp p a b).length - 1) = 1) ∧ ∀ d, Dv p d (cf (gcdp p a b)) ↔ Dv p d (cf a) ∧ Dv p d (cf b) := by
  have hp2 := hp.pos
  by_cases hz : a = [] ∧ b = []
  · have e : gcdp p a b = [] := if_pos hz
    obtain ⟨rfl, rfl⟩ := hz
    rw [e]
    exact ⟨Po_nil (by omega), .inl (Nat.le_refl _), fun h => absurd rfl h, fun d => ⟨fun h => ⟨h, h⟩, fun h => h.1⟩⟩
  · have e : gcdp p a b = (bez p a b).1 := if_neg hz
    have hne : a ≠ [] ∨ b ≠ [] := by
      by_cases h1 : a = []
      · exact .inr fun h2 => hz ⟨h1, h2⟩
      · exact .inl h1
    have h := bez_ok hp ha hb hne
    rw [e]
    have len : ∀ x, Po p x → x ≠ [] → Dv p (cf (bez p a b).1) (cf x) → (bez p a b).1.length ≤ x.length := fun x hx hn hd => by
      obtain ⟨q, hq, e⟩ := hd.list hp hx
      obtain ⟨h1, _, h3⟩ := mulp_len_pos hp hq h.pd (e ▸ hn)
      have := List.length_pos_iff.2 h1
      rw [← e] at h3
      omega
    refine ⟨h.pd, ?_, fun _ => h.one, fun d => ⟨fun hd => ⟨hd.trans h.da, hd.trans h.db⟩, fun hd => ?_⟩⟩
    · rcases hne with h1 | h1
      · exact .inl (len a ha h1 h.da)
      · exact .inr (len b hb h1 h.db)
    · exact Dv.comb (cf_Fin0 _) hd.1 (Dv.mul (cf_Fin0 _) hd.2) h.id
/-- Ahead of a pair of parts, in the order in which they come. -/
def bef (r c r' c' : Nat) : Prop := r' < r ∨ (r' = r ∧ c' < c)
/-- What is known of O ahead of a pair of parts. -/
structure DivI (p : Int) (n k : Nat) (E : MxL) (r c : Nat) (O : List Int) : Prop where
  po : Po p O
  le : O.length ≤ 8
  one : O ≠ [] → cf O (O.length - 1) = 1
  dv : ∀ d, Dv p d (cf O) ↔ ∀ r' c', bef r c r' c' → r' < 2 ^ n → c' < 2 ^ n → (bits n r').length = k → (bits n c').length = k → Dv p d (cf (minP p E (bits n r') (bits n c')))
theorem DivI.start {p : Int} (hp : Pr p) (n k : Nat) (E : MxL) : DivI p n k E 0 0 [] :=
  ⟨Po_nil (by have := hp.pos; omega), by simp, fun h => absurd rfl h, fun d => ⟨fun _ r' c' hb => by unfold bef at hb; omega, fun _ => by rw [cf_nil_zero]; exact Dv.zero d⟩⟩
theorem DivI.skip {p : Int} {n k : Nat} {E : MxL} {r c : Nat} {O : List Int} (h : DivI p n k E r c O) (hs : (bits n r).length ≠ k ∨ (bits n c).length ≠ k) : DivI p n k E r (c + 1) O := by
  refine ⟨h.po, h.le, h.one, fun d => (h.dv d).trans ⟨fun g r' c' hb h1 h2 h3 h4 => ?_, fun g r' c' hb h1 h2 h3 h4 => g r' c' ?_ h1 h2 h3 h4⟩⟩
  · refine g r' c' ?_ h1 h2 h3 h4
    unfold bef at *
    rcases hb with hb | ⟨rfl, hb⟩
    · exact .inl hb
    · by_cases e : c' = c
      · subst e; rcases hs with hs | hs
        · exact absurd h3 hs
        · exact absurd h4 hs
      · exact .inr ⟨rfl, by omega⟩
  · unfold bef at *; omega
theorem DivI.step {p : Int} (hp : Pr p) {n k : Nat} {E : MxL} {r c : Nat} {O : List Int} (h : DivI p n k E r c O) (hr : r < 2 ^ n) (hc : c < 2 ^ n) (h1 : (bits n r).length = k) (h2 : (bits n c).length = k) (hD : Po p (minP p E (bits n r) (bits n c))) (hl : (minP p E (bits n r) (bits n c)).length ≤ 8) :
    DivI p n k E r (c + 1) (gcdp p O (minP p E (bits n r) (bits n c))) := by
  obtain ⟨g1, g2, g3, g4⟩ := gcdp_ok hp h.po hD
  refine ⟨g1, by have := h.le; omega, g3, fun d => (g4 d).trans ⟨fun ⟨a1, a2⟩ r' c' hb q1 q2 q3 q4 => ?_, fun g => ⟨(h.dv d).2 fun r' c' hb q1 q2 q3 q4 => g r' c' ?_ q1 q2 q3 q4, g r c (by unfold bef; omega) hr hc h1 h2⟩⟩⟩
  · by_cases e : r' = r ∧ c' = c
    · obtain ⟨rfl, rfl⟩ := e; exact a2
    · exact (h.dv d).1 a1 r' c' (by unfold bef at *; omega) q1 q2 q3 q4
  · unfold bef at *; omega
theorem DivI.line {p : Int} {n k : Nat} {E : MxL} {r : Nat} {O : List Int} (h : DivI p n k E r (2 ^ n) O) : DivI p n k E (r + 1) 0 O := by
  refine ⟨h.po, h.le, h.one, fun d => (h.dv d).trans ⟨fun g r' c' hb h1 h2 h3 h4 => g r' c' ?_ h1 h2 h3 h4, fun g r' c' hb h1 h2 h3 h4 => g r' c' ?_ h1 h2 h3 h4⟩⟩
  · unfold bef at *; omega
  · unfold bef at *; omega
section
variable {p : Int} {n k : Nat} {E : MxL}
theorem all_bits {d : PS} (hp : Pr p) (hn : n ≤ 6) (hk : k ≤ 6) (hE : ∀ i j, i < n → j < n → Po p (E i j) ∧ (E i j).length ≤ 2) : AllMinK (Dv p d) (· < n) k (cfm E) ↔ ∀ r' c', r' < 2 ^ n → c' < 2 ^ n → (bits n r').length = k → (bits n c').length = k → Dv p d (cf (minP p E (bits n r') (bits n c'))) := by
  constructor
  · intro h r' c' _ _ h3 h4
    obtain ⟨_, _, e⟩ := minP_ok hp hn hE (R := bits n r') (C := bits n c') (fun i hi => bits_mem hi) (fun i hi => bits_mem hi) (by omega)
    exact (h _ _ (fun i hi => bits_mem hi) (fun i hi => bits_mem hi) h3 h4).congr e
  · intro h
    refine dv_of_ord fun R C hR hC h3 h4 => ?_
    obtain ⟨r', hr, rfl⟩ := ord_bits hn hR
    obtain ⟨c', hc, rfl⟩ := ord_bits hn hC
    obtain ⟨_, _, e⟩ := minP_ok hp hn hE (R := bits n r') (C := bits n c') (fun i hi => bits_mem hi) (fun i hi => bits_mem hi) (by omega)
    exact (h r' c' hr hc h3 h4).congr e.symm
theorem DivI.done (hp : Pr p) (hn : n ≤ 6) (hk : k ≤ 6) (hE : ∀ i j, i < n → j < n → Po p (E i j) ∧ (E i j).length ≤ 2) {O g : List Int} (h : DivI p n k E (2 ^ n) 0 O) (hg : IsG p n k (cfm E) g) : O = g := by
  have hd : ∀ d, Dv p d (cf O) ↔ AllMinK (Dv p d) (· < n) k (cfm E) := fun d => (h.dv d).trans (Iff.trans ⟨fun q r' c' h1 h2 h3 h4 => q r' c' (.inl h1) h1 h2 h3 h4, fun q r' c' _ h1 h2 h3 h4 => q r' c' h1 h2 h3 h4⟩ (all_bits hp hn hk hE).symm)
  have hne : O ≠ [] := fun e => by
    have h1 := hg.gr _ ((hd _).1 (Dv.refl _))
    rw [e] at h1
    obtain ⟨q, _, e2⟩ := h1.list hp hg.po
    have h0 : mulp p q [] = [] := by
      rcases mulp_len hp ‹Po p q› (Po_nil (p := p) (by have := hp.pos; omega)) with h | ⟨_, h, _⟩
      · exact h
      · exact absurd rfl h
    exact hg.ne (e2.trans h0)
  exact IsG.same hp ⟨h.po, hne, h.one hne, (hd _).1 (Dv.refl _), fun e he => (hd e).2 he⟩ hg
theorem one_of_len (hp : Pr p) {O : List Int} (hO : Po p O) (hl : O.length = 1) (h1 : O ≠ [] → cf O (O.length - 1) = 1) : O = [1] := by
  have hp2 := hp.pos
  have hne : O ≠ [] := fun e => by rw [e] at hl; simp at hl
  have h2 := h1 hne
  rw [hl] at h2
  obtain ⟨x, rfl⟩ := List.length_eq_one_iff.1 hl
  rw [cf_cons_zero] at h2
  rw [h2]
theorem DivI.early (hp : Pr p) (hn : n ≤ 6) (hk : k ≤ 6) (hE : ∀ i j, i < n → j < n → Po p (E i j) ∧ (E i j).length ≤ 2) {r c : Nat} {O g : List Int} (h : DivI p n k E r c O) (hl : O.length = 1) (hg : IsG p n k (cfm E) g) : O = g := by
  have hp2 := hp.pos
  have e := one_of_len hp h.po hl h.one
  have hne : O ≠ [] := fun e => by rw [e] at hl; simp at hl
  refine IsG.same hp ⟨h.po, hne, h.one hne, ?_, fun d hd => (h.dv d).2 fun r' c' _ h1 h2 h3 h4 => (all_bits hp hn hk hE).1 hd r' c' h1 h2 h3 h4⟩ hg
  intro R C _ _ _ _
  rw [e, cf_one]
  refine (all_bits hp hn hk hE (d := pone)).2 (fun r' c' _ _ _ _ => ⟨cf (minP p E (bits n r') (bits n c')), _, cf_Fin0 _, Eqp.of_eq (pmul_one _).symm⟩) R C ‹_› ‹_› ‹_› ‹_›
end
set_option maxRecDepth 20000 in
set_option maxHeartbeats 8000000 in
theorem l05Divisor_any (E : MxL) (p : Int) (n k : Nat) (G : List Int) (hp : Pr p) (hn : n ≤ 6) (hk : k ≤ n) (hE : ∀ i j, i < n → j < n → Po p (E i j) ∧ (E i j).length ≤ 2) (v : Value) (w : World) (hT : TabS w v n E) (hG : IsG p n k (cfm E) G) :
    Calls Try.prog 54 #[.int .i64 p, v, .int .i64 k] w fun e w' => e = .returned (.agg (u8s 64 (cf G))) ∧ Below w.heap.size w w' := by
  have hp2 := hp.pos
  have hpH := Lib.hid hp
  have hEH := Lib.hid hE
  have hGH := Lib.hid hG
  have h64 : 2 ^ n ≤ 2 ^ 6 := Nat.pow_le_pow_right (by omega) hn
  obtain ⟨N, hN⟩ : ∃ N, 2 ^ n = N := ⟨_, rfl⟩
  have hNH := Lib.hid hN
  have hN64 : N ≤ 64 := by omega
  have hTH := Lib.hid (fun w' (hb : Below w.heap.size w w') => hT.below hb)
  obtain ⟨g, c9, Rl, rfl, _, _⟩ := hT
  have hZ := Blk.new w (u8s 64 fun _ => 0) 25
  have hb0 := below_new w (.cells (u8s 64 fun _ => 0) 25)
  have hnI : (n : Int) ≤ 6 := by omega
  clear hp hE hG hN h64
  go_enter Try.func54, Try.ntmps54
  go_upto_region 1 with ((with_reducible refine wpl_guard ?_); first | (refine wpl_alloc_arr rfl 25 rfl _ zPoly ?_))
  have hO := Blk.new (w.alloc (.cells (u8s 64 fun _ => 0) 25)) (u8s 64 fun _ => 0) 25
  have hnn := below_new (w.alloc (.cells (u8s 64 fun _ => 0) 25)) (.cells (u8s 64 fun _ => 0) 25)
  replace hZ := hZ.keep hnn
  replace hb0 := below_step hb0 hnn
  have hv0 := Lib.hid (u8s_ext fun j _ => (cf_nil j).symm : u8s 64 (fun _ => 0) = u8s 64 (cf []))
  clear hnn
  go_upto_region 2 with ((with_reducible refine wpl_guard ?_); first | (refine wpl_build_zero rfl 25 64 5 rfl _ uPoly sByte zPoly ?_) | (refine wpl_alloc_arr rfl 25 rfl _ zPoly ?_) | (refine wpl_store_new rfl 25 _ _ rfl _ rfl rfl _ rfl sPoly (by simp only [u8s_size]) (u8s_oneCell _ _) ?_))
  rw [size_alloc] at hO
  have hw64 : wrap64 ((2 : Int) ^ n) = (N : Int) := by
    have key : ∀ i : Fin 7, wrap64 ((2 : Int) ^ i.val) = ((2 ^ i.val : Nat) : Int) := by decide +kernel
    rw [← hNH.out]; exact key ⟨n, by omega⟩
  rw [hw64]
  clear hw64
  generalize World.alloc (World.alloc w (.cells (u8s 64 fun _ => 0) 25)) (.cells (u8s 64 fun _ => 0) 25) = wa at *
  rw [hv0.out] at hO
  obtain ⟨gO, hgO⟩ : ∃ q, w.heap.size + 1 = q := ⟨_, rfl⟩
  rw [hgO] at hO ⊢
  have hgZ : w.heap.size < gO := by omega
  clear hgO hv0
  go_wp2_with fail
  go_loopw [9] (fun vr wr => ∃ (r : Nat) (O : List Int), vr = .int .i64 (r : Int) ∧ r ≤ N ∧ Blk wr gO (u8s 64 (cf O)) 25 ∧ Hid (DivI p n k E r 0 O) ∧ Blk wr w.heap.size (u8s 64 fun _ => 0) 25 ∧ Below w.heap.size w wr) (fun vr _ => N - (intOf vr).toNat)
  case atStart => exact ⟨0, [], rfl, by omega, hO, Lib.hid (DivI.start hpH.out n k E), hZ, hb0⟩
  case round =>
    clear hO hZ hb0
    obtain ⟨r, O, rfl, hr, hO, hI, hZ, hb⟩ := hrel
    by_cases hrN : r < N
    · have hrI : (r : Int) < (N : Int) := by omega
      go_wp2_with fail
      go_loopw [10] (fun vc wr => ∃ (c : Nat) (O : List Int), vc = .int .i64 (c : Int) ∧ c ≤ N ∧ Blk wr gO (u8s 64 (cf O)) 25 ∧ Hid (DivI p n k E r c O) ∧ Blk wr w.heap.size (u8s 64 fun _ => 0) 25 ∧ Below w.heap.size w wr) (fun vc _ => N - (intOf vc).toNat)
      case atStart => exact ⟨0, O, rfl, by omega, hO, hI, hZ, hb⟩
      case round =>
        clear hO hZ hb hI
        obtain ⟨c, O, rfl, hc, hO, hI, hZ, hb⟩ := hrel
        by_cases hcN : c < N
        · have hcI : (c : Int) < (N : Int) := by omega
          have ho1 := Lib.hid (fun w => l05Ones_any r w (by omega))
          have ho2 := Lib.hid (fun w => l05Ones_any c w (by omega))
          have e1 := ones_bits n hn r (by rw [hNH.out]; omega)
          have e2 := ones_bits n hn c (by rw [hNH.out]; omega)
          rw [e1] at ho1
          rw [e2] at ho2
          have l1 := bits_len n r
          have l2 := bits_len n c
          obtain ⟨x, hx⟩ : ∃ x, (bits n r).length = x := ⟨_, rfl⟩
          obtain ⟨y, hy⟩ : ∃ x, (bits n c).length = x := ⟨_, rfl⟩
          rw [hx] at ho1 l1
          rw [hy] at ho2 l2
          have hxH := Lib.hid hx
          have hyH := Lib.hid hy
          clear hx hy e1 e2
          by_cases hxk : x = k
          · have hxe : ((x : Int) != (k : Int)) = false := by rw [bne_eq_false_iff_eq]; omega
            by_cases hyk : y = k
            · have hye : ((y : Int) != (k : Int)) = false := by rw [bne_eq_false_iff_eq]; omega
              obtain ⟨hm1, hm2, _⟩ := minP_ok hpH.out hn hEH.out (R := bits n r) (C := bits n c) (fun i h => bits_mem h) (fun i h => bits_mem h) (by rw [hxH.out]; omega)
              rw [hxH.out] at hm2
              have hmin := Lib.hid (fun w3 (hT : TabS w3 (.slice (some ⟨g, 0, none⟩) n c9) n E) => l05Minor_any E p n hpH.out hn hEH.out k r c _ w3 (by rw [hNH.out]; omega) (by rw [hNH.out]; omega) (hxH.out.trans hxk) (hyH.out.trans hyk) hT)
              have hI2 := Lib.hid (hI.out.step hpH.out (by rw [hNH.out]; omega) (by rw [hNH.out]; omega) (hxH.out.trans hxk) (hyH.out.trans hyk) hm1 (by omega))
              obtain ⟨D, hD⟩ : ∃ D, minP p E (bits n r) (bits n c) = D := ⟨_, rfl⟩
              rw [hD] at hm1 hm2 hmin hI2
              have hgcd := Lib.hid (fun w3 => l01Gcd_any O D p w3 ⟨hpH.out, hI.out.po, by have := hI.out.le; omega⟩ ⟨hpH.out, hm1, by omega⟩)
              obtain ⟨GO, hGO⟩ : ∃ X, gcdp p O D = X := ⟨_, rfl⟩
              rw [hGO] at hgcd hI2
              have hGP : P64 p GO := ⟨hpH.out, hI2.out.po, by have := hI2.out.le; omega⟩
              have hdeg := Lib.hid (fun w => l01Deg_list p GO w hGP)
              clear hI hxk hyk hm1 hm2 hD hGO hGP
              go_wp2_with fail
              refine (ho1.out _).mono ?_
              rintro e w2 ⟨rfl, hn2⟩
              replace hO := hO.keep hn2
              replace hZ := hZ.keep hn2
              replace hb := below_step hb hn2
              clear hn2
              go_wp2_with fail
              refine (ho2.out _).mono ?_
              rintro e w3 ⟨rfl, hn3⟩
              replace hO := hO.keep hn3
              replace hZ := hZ.keep hn3
              replace hb := below_step hb hn3
              have hT2 := Lib.hid (hTH.out _ hb)
              clear hn3
              go_upto_region 9 with (fail)
              refine gen_last (w := _) (by kernel_rfl) (by kernel_rfl) (by kernel_rfl) 8 (by kernel_rfl)
                  (fun i => ([fun zv _ => zv = .int .i64 p, fun zv _ => zv = .agg (u8s 64 (cf O)), fun zv _ => zv = .int .i64 p, fun zv _ => zv = .slice (some ⟨g, 0, none⟩) n c9, fun zv _ => zv = .int .i64 (r : Int), fun zv _ => zv = .int .i64 (c : Int), fun zv _ => zv = .agg (u8s 64 (cf D)), fun zv _ => zv = .agg (u8s 64 (cf GO)), fun _ _ => True] : List (Value → World → Prop)).getD i (fun _ _ => True))
                  (fun w' => Blk w' (gO) (u8s 64 (cf O)) 25 ∧ True) ⟨hO.drew, trivial⟩ (fun w1 w2 h hb => ⟨h.1.keep hb, trivial⟩) ?_ ?_ ?_
              · intro i v w1 w2 h hb
                rcases i with _|_|_|_|_|_|_|_|_|i
                · exact h
                · exact h
                · exact h
                · exact h
                · exact h
                · exact h
                · exact h
                · exact h
                · exact h
                · exact h
              · intro i o ho hiZ a w2 hBl hSx hrd hpar
                rcases i with _|_|_|_|_|_|_|_|_|i
                · obtain rfl := Option.some.inj ho
                  refine .inl ⟨rfl, ?_⟩
                  have e0 : a.eval (.tmp 0) = .int .i64 p := hpar 0 _ (by kernel_rfl) (by kernel_rfl)
                  exact wpv_of (wp_move _ _ rfl e0) (fun _ _ => rfl)
                · obtain rfl := Option.some.inj ho
                  refine .inl ⟨rfl, ?_⟩
                  exact wpv_of (wp_loadB 25 _ rfl _ (hpar 7 (.pointer (some ⟨gO, 0, none⟩)) (by kernel_rfl) (by kernel_rfl)) _ _ hSx.1 _ _ uPoly sPoly) (fun _ _ => rfl)
                · obtain rfl := Option.some.inj ho
                  refine .inl ⟨rfl, ?_⟩
                  have e0 : a.eval (.tmp 0) = .int .i64 p := hpar 0 _ (by kernel_rfl) (by kernel_rfl)
                  exact wpv_of (wp_move _ _ rfl e0) (fun _ _ => rfl)
                · obtain rfl := Option.some.inj ho
                  refine .inl ⟨rfl, ?_⟩
                  have e1 : a.eval (.tmp 1) = .slice (some ⟨g, 0, none⟩) n c9 := hpar 1 _ (by kernel_rfl) (by kernel_rfl)
                  exact wpv_of (wp_move _ _ rfl e1) (fun _ _ => rfl)
                · obtain rfl := Option.some.inj ho
                  refine .inl ⟨rfl, ?_⟩
                  have e9 : a.eval (.tmp 9) = .int .i64 (r : Int) := hpar 9 _ (by kernel_rfl) (by kernel_rfl)
                  exact wpv_of (wp_move _ _ rfl e9) (fun _ _ => rfl)
                · obtain rfl := Option.some.inj ho
                  refine .inl ⟨rfl, ?_⟩
                  have e10 : a.eval (.tmp 10) = .int .i64 (c : Int) := hpar 10 _ (by kernel_rfl) (by kernel_rfl)
                  exact wpv_of (wp_move _ _ rfl e10) (fun _ _ => rfl)
                · obtain rfl := Option.some.inj ho
                  refine .inl ⟨rfl, ?_⟩
                  have e38 : a.eval (.tmp 38) = .int .i64 p := hrd 2 _ 38 rfl rfl (by kernel_rfl) (by kernel_rfl)
                  have e39 : a.eval (.tmp 39) = .slice (some ⟨g, 0, none⟩) n c9 := hrd 3 _ 39 rfl rfl (by kernel_rfl) (by kernel_rfl)
                  have e40 : a.eval (.tmp 40) = .int .i64 (r : Int) := hrd 4 _ 40 rfl rfl (by kernel_rfl) (by kernel_rfl)
                  have e41 : a.eval (.tmp 41) = .int .i64 (c : Int) := hrd 5 _ 41 rfl rfl (by kernel_rfl) (by kernel_rfl)
                  exact wpv_call 85 [.tmp 38, .tmp 39, .tmp 40, .tmp 41] _ rfl [.int .i64 p, .slice (some ⟨g, 0, none⟩) n c9, .int .i64 (r : Int), .int .i64 (c : Int)] (by simp only [List.map_cons, List.map_nil, e38, e39, e40, e41]) Try.call85 ((hmin.out w2 (hT2.out.below hBl)).mono fun _ _ ⟨h1, h2⟩ => ⟨_, h1, rfl, h2⟩)
                · obtain rfl := Option.some.inj ho
                  refine .inl ⟨rfl, ?_⟩
                  have e36 : a.eval (.tmp 36) = .int .i64 p := hrd 0 _ 36 rfl rfl (by kernel_rfl) (by kernel_rfl)
                  have e37 : a.eval (.tmp 37) = .agg (u8s 64 (cf O)) := hrd 1 _ 37 rfl rfl (by kernel_rfl) (by kernel_rfl)
                  have e42 : a.eval (.tmp 42) = .agg (u8s 64 (cf D)) := hrd 6 _ 42 rfl rfl (by kernel_rfl) (by kernel_rfl)
                  exact wpv_call 84 [.tmp 36, .tmp 37, .tmp 42] _ rfl [.int .i64 p, .agg (u8s 64 (cf O)), .agg (u8s 64 (cf D))] (by simp only [List.map_cons, List.map_nil, e36, e37, e42]) Try.call84 ((hgcd.out w2).mono fun _ _ ⟨h1, h2⟩ => ⟨_, h1, rfl, h2⟩)
                · obtain rfl := Option.some.inj ho
                  exact absurd rfl hiZ
                · simp at ho
              intro oZ hoZ vals xA hBx hSx hc0
              obtain rfl := Option.some.inj hoZ
              clear hoZ
              have e0 : vals 0 = .int .i64 p := hc0 0 (by simp) (by decide)
              have e1 : vals 1 = .agg (u8s 64 (cf O)) := hc0 1 (by simp) (by decide)
              have e2 : vals 2 = .int .i64 p := hc0 2 (by simp) (by decide)
              have e3 : vals 3 = .slice (some ⟨g, 0, none⟩) n c9 := hc0 3 (by simp) (by decide)
              have e4 : vals 4 = .int .i64 (r : Int) := hc0 4 (by simp) (by decide)
              have e5 : vals 5 = .int .i64 (c : Int) := hc0 5 (by simp) (by decide)
              have e6 : vals 6 = .agg (u8s 64 (cf D)) := hc0 6 (by simp) (by decide)
              have e7 : vals 7 = .agg (u8s 64 (cf GO)) := hc0 7 (by simp) (by decide)
              refine ⟨rfl, ?_⟩
              simp only [List.length_cons, List.length_nil, Nat.zero_add, Nat.reduceAdd, List.replicate, seenAll, Bool.false_eq_true, if_false, putAll, if_true, Act.put, List.setIfInBounds_toArray, List.set_cons_zero, List.set_cons_succ, e0, e1, e2, e3, e4, e5, e6, e7]
              replace hZ := hZ.keep hBx
              replace hO := hSx.1
              replace hb := below_step hb hBx
              clear hc0 hSx e0 e1 e2 e3 e4 e5 e6 e7
              refine wp_store_arr 25 _ _ rfl gO rfl _ rfl _ _ hO sPoly (by simp only [u8s_size]) (u8s_oneCell _ _) ?_
              replace hO := hO.setRow_same (cs := u8s 64 (cf GO))
              replace hZ := hZ.setRow_other (g := gO) (cs := u8s 64 (cf GO)) (by omega)
              replace hb := below_setRow hb (show w.heap.size ≤ gO by omega) (u8s 64 (cf GO))
              clear hmin hgcd hT2
              go_wp2_with ((with_reducible refine wpl_guard ?_); first | (refine wpl_load_arr rfl 25 _ rfl _ rfl _ _ hO _ _ uPoly sPoly ?_))
              refine (hdeg.out _).mono ?_
              rintro e w4 ⟨rfl, hn4⟩
              replace hO := hO.keep hn4
              replace hZ := hZ.keep hn4
              replace hb := below_step hb hn4
              clear hn4
              by_cases h1 : GO.length = 1
              · have hz : (((GO.length : Int) - 1) == 0) = true := by rw [beq_iff_eq]; omega
                have hval := Lib.hid (hI2.out.early hpH.out hn (by omega) hEH.out h1 hGH.out : GO = G)
                clear h1
                go_wp2_with ((with_reducible refine wpl_guard ?_); first | (refine wpl_load_arr rfl 25 _ rfl _ rfl _ _ hO _ _ uPoly sPoly ?_) | (refine wpl_store_arr rfl 25 _ _ rfl _ rfl _ rfl _ _ hZ sPoly (by simp only [u8s_size]) (u8s_oneCell _ _) ?_))
                exact bodyPost_ret (res_c rfl rfl (hZ.setRow_same (cs := u8s 64 (cf GO))) uPoly sPoly) rfl ⟨by rw [hval.out], below_setRow hb (by omega) _⟩
              · have hz : (((GO.length : Int) - 1) == 0) = false := by rw [beq_eq_false_iff_ne]; omega
                clear h1
                go_wp2_with fail
                go_roundw
                case rel => exact ⟨c + 1, GO, by go_num, by omega, hO, hI2, hZ, hb⟩
                case measure => simp [intOf] <;> omega
            · have hye : ((y : Int) != (k : Int)) = true := by rw [bne_iff_ne]; omega
              have hI2 := Lib.hid (hI.out.skip (.inr (by rw [hyH.out]; exact hyk)))
              clear hI hxk hyk
              go_wp2_with fail
              refine (ho1.out _).mono ?_
              rintro e w2 ⟨rfl, hn2⟩
              replace hO := hO.keep hn2
              replace hZ := hZ.keep hn2
              replace hb := below_step hb hn2
              clear hn2
              go_wp2_with fail
              refine (ho2.out _).mono ?_
              rintro e w3 ⟨rfl, hn3⟩
              replace hO := hO.keep hn3
              replace hZ := hZ.keep hn3
              replace hb := below_step hb hn3
              clear hn3
              go_wp2_with fail
              go_roundw
              case rel => exact ⟨c + 1, O, by go_num, by omega, hO, hI2, hZ, hb⟩
              case measure => simp [intOf] <;> omega
          · have hxe : ((x : Int) != (k : Int)) = true := by rw [bne_iff_ne]; omega
            have hI2 := Lib.hid (hI.out.skip (.inl (by rw [hxH.out]; exact hxk)))
            clear hI hxk
            go_wp2_with fail
            refine (ho1.out _).mono ?_
            rintro e w2 ⟨rfl, hn2⟩
            replace hO := hO.keep hn2
            replace hZ := hZ.keep hn2
            replace hb := below_step hb hn2
            clear hn2
            go_wp2_with fail
            go_roundw
            case rel => exact ⟨c + 1, O, by go_num, by omega, hO, hI2, hZ, hb⟩
            case measure => simp [intOf] <;> omega
        · have ecN : N = c := by omega
          have hI2 := Lib.hid (by have := hI.out; rw [← ecN, ← hNH.out] at this; exact this.line : DivI p n k E (r + 1) 0 O)
          subst ecN
          clear hI
          go_wp2_with fail
          go_roundw
          case rel => exact ⟨r + 1, O, by go_num, by omega, hO, hI2, hZ, hb⟩
          case measure => simp [intOf] <;> omega
    · have erN : N = r := by omega
      have hval := Lib.hid (by have := hI.out; rw [← erN, ← hNH.out] at this; exact this.done hpH.out hn (by omega) hEH.out hGH.out : O = G)
      subst erN
      clear hI
      go_wp2_with ((with_reducible refine wpl_guard ?_); first | (refine wpl_load_arr rfl 25 _ rfl _ rfl _ _ hO _ _ uPoly sPoly ?_) | (refine wpl_store_arr rfl 25 _ _ rfl _ rfl _ rfl _ _ hZ sPoly (by simp only [u8s_size]) (u8s_oneCell _ _) ?_))
      exact bodyPost_ret (res_c rfl rfl (hZ.setRow_same (cs := u8s 64 (cf O))) uPoly sPoly) rfl ⟨by rw [hval.out], below_setRow hb (by omega) _⟩
end Go.Proofs.Ytnkkkgaojhkniab

/- Walks: the reference's quotients of greatest common divisors. -/
namespace Go.Proofs.Ytnkkkgaojhkniab
open Go.RowKit
section
variable {P : Program} {ops : Array Oper} {rest : List Oper} {o : Oper} {a : Act} {w : World} {Q : Exit → Act → World → Prop}
theorem wp_inc (t t' : TypeId) (x : Operand) (hop : o.op = .binOp .add t x (.const (.int .i64 1)) t') (j : Nat) (hx : a.eval x = .int .i64 (j : Int)) (hj : j ≤ 1000000) :
    o.wp P a w (fun a' w' => a' = a.put o.dst (.int .i64 ((j : Int) + 1)) ∧ Below w.heap.size w w') Q := by
  have hw : IntKind.i64.wrap ((j : Int) + 1) = (j : Int) + 1 := by rw [IntKind.wrap_i64]; omega
  unfold Oper.wp execOp
  have hc : a.eval (.const (.int .i64 1)) = .int .i64 1 := rfl
  simp only [hop, hx, hc]
  simp only [eqGuard, binOp, Op.intArith, Sem.run_bind, Sem.run_pure, Result.andThen_ok, Bool.not_false, if_true, hw, Oper.upon]
  simp only [ne_eq, not_true, if_false, Sem.run_pure, Result.andThen_ok]
  exact ⟨trivial, Below.refl _ _⟩
/-- A new list of arrays of zeros. -/
theorem wpv_make_bs (t e : TypeId) (l c : Operand) (hop : o.op = .makeSlice t l c) (ht : P.underlying t = some (.slice e))
    (hinfo : (P.info? e).map (fun i => (i.zero, i.size, i.bytes)) = some (some (.agg (u8s 64 fun _ => 0)), 64, 64))
    (kl kc : IntKind) (n : Nat) (hl : a.eval l = .int kl (n : Int)) (hc : a.eval c = .int kc (n : Int)) (hn : n ≤ 10000000) (B : Nat) (hB : B ≤ w.heap.size) :
    WpV P o a w (fun v w' => ∃ g, v = .slice (some ⟨g, 0, none⟩) n n ∧ B ≤ g ∧ BsL e 64 w' B v n (fun _ => [])) Q := by
  obtain ⟨i, hi, hz, hsz, hby⟩ := info_parts hinfo
  obtain ⟨w', hr, h2, h3⟩ := run_make_full (P := P) w B t e i _ 64 ht hi hz hsz kl kc n (by rw [hby]; omega) (by unfold maxLen; omega) hB
  have h4 : BsL e 64 w' B (.slice (some ⟨w.heap.size, 0, none⟩) n n) n (fun _ => []) := by
    unfold BsL
    have e : (madeCells (Value.agg (u8s 64 fun _ => 0)).cells (n * 64)).toList = (List.range (n * 64)).map (bcell 64 fun _ => []) := by
      apply List.ext_getElem?
      intro j
      by_cases hj : j < n * 64
      · rw [List.getElem?_map, List.getElem?_range hj]
        have h5 : (u8s 64 fun _ => 0)[j % 64]? = some (Value.int .u8 0) := u8s_get _ (by omega)
        have h6 : (u8s 64 fun _ => 0)[j % 64]! = Value.int .u8 0 := by rw [getElem!_def, h5]
        simp [madeCells, Value.cells, hj, u8s_size, h6, bcell, cf_nil]
      · rw [List.getElem?_eq_none (by simp [madeCells]; omega), List.getElem?_eq_none (by simp; omega)]
    rw [← e]; exact h2
  have hb := grownK_below h3 (fun k e => by cases e) (Nat.le_refl _)
  unfold WpV Oper.wp execOp
  simp only [hop, hl, hc, Sem.run_bind, hr, Result.andThen_ok]
  exact ⟨_, rfl, ⟨_, rfl, hB, h4⟩, hb⟩
theorem wpl_store_b64 (hw : Region.wanted o (yielded ops a.tmps) = true) (t : TypeId) (x y : Operand) (hop : o.op = .store t x y) (g k : Nat) (hx : a.eval x = .pointer (some ⟨g, k * 64, none⟩)) (xs : List Int) (hy : a.eval y = .agg (u8s 64 (cf xs)))
    (B n cap : Nat) (M : Nat → List Int) (T : Nat) (hP : BsL T 64 w B (.slice (some ⟨g, 0, none⟩) n cap) n M) (hk : k < n) (hs : (P.info? t).map (·.size) = some 64)
    (h : ∀ w', BsL T 64 w' B (.slice (some ⟨g, 0, none⟩) n cap) n (fun q => if q = k then xs else M q) → w.grownBy w' (some g) → wpList P ops Q rest (a.put o.dst undef) w') : wpList P ops Q (o :: rest) a w :=
  wpl_wanted hw fun _ hK => wp_store_b64 t x y hop g k hx xs hy B n cap M T hP hk hs fun w' h1 h2 => hK _ _ (h w' h1 h2)
end
section
variable {p : Int} {n k : Nat} {E : MxL}
theorem IsG.len (hp : Pr p) (hn : n ≤ 6) (hk : k ≤ 6) (hE : ∀ i j, i < n → j < n → Po p (E i j) ∧ (E i j).length ≤ 2) {g : List Int} (hg : IsG p n k (cfm E) g) : g.length ≤ 8 := by
  have hp2 := hp.pos
  refine Classical.byContradiction fun hl => hg.ne ?_
  have h1 := (all_bits hp hn hk hE).1 hg.dv
  have h2 : ∀ r' c', r' < 2 ^ n → c' < 2 ^ n → (bits n r').length = k → (bits n c').length = k → minP p E (bits n r') (bits n c') = [] := fun r' c' q1 q2 q3 q4 => by
    refine Classical.byContradiction fun hne => ?_
    obtain ⟨m1, m2, _⟩ := minP_ok hp hn hE (R := bits n r') (C := bits n c') (fun i hi => bits_mem hi) (fun i hi => bits_mem hi) (by omega)
    obtain ⟨q, hq, e⟩ := (h1 r' c' q1 q2 q3 q4).list hp m1
    obtain ⟨l1, _, l3⟩ := mulp_len_pos hp hq hg.po (e ▸ hne)
    have := List.length_pos_iff.2 l1
    rw [← e] at l3
    omega
  have h3 := hg.gr pzero ((all_bits hp hn hk hE).2 fun r' c' q1 q2 q3 q4 => by rw [h2 r' c' q1 q2 q3 q4, cf_nil_zero]; exact Dv.zero _)
  rw [← cf_nil_zero] at h3
  obtain ⟨q, hq, e⟩ := h3.list hp hg.po
  rcases mulp_len hp hq (Po_nil (p := p) (by omega)) with h | ⟨_, h, _⟩
  · exact e.trans h
  · exact absurd rfl h
theorem gk_down (hp : Pr p) {D : Nat → List Int} : ∀ k, (∀ i, i < k → Po p (D i) ∧ D i ≠ []) → (gk p D k).length = 1 → ∀ i, i ≤ k → gk p D i = [1]
  | 0, _, _, i, hi => by obtain rfl : i = 0 := by omega
                         rfl
  | k + 1, h, hl, i, hi => by
    obtain ⟨h1, h2, h3⟩ := gk_monic hp (k + 1) h
    by_cases e : i = k + 1
    · subst e; exact one_of_len hp h1 hl fun _ => h3
    · refine gk_down hp k (fun i hi => h i (by omega)) ?_ i (by omega)
      obtain ⟨g1, g2, _⟩ := gk_monic hp k fun i hi => h i (by omega)
      obtain ⟨m1, _, _⟩ := monic_ne hp (h k (by omega)).1 (h k (by omega)).2
      have e := mulp_length hp g1 (monic_Po hp (D k)) g2 m1
      have a1 := List.length_pos_iff.2 g2
      have a2 := List.length_pos_iff.2 m1
      have e2 : (mulp p (gk p D k) (monic p (D k))).length = 1 := hl
      omega
end
/-- A table that does not lie in block g. -/
def TabF (w : World) (g : Nat) (v : Value) (n : Nat) (E : MxL) : Prop := ∃ (b c : Nat) (R : Nat → Value), v = .slice (some ⟨b, 0, none⟩) n c ∧ b ≠ g ∧ (∀ i, i < n → w.cell? ⟨b, i, none⟩ = some (R i)) ∧ ∀ i, i < n → ∃ b' c', R i = .slice (some ⟨b', 0, none⟩) n c' ∧ b' ≠ g ∧ ∀ j, j < n → ∀ q, q < 64 → w.cell? ⟨b', j * 64 + q, none⟩ = some (.int .u8 (cf (E i j) q))
theorem TabF.tab {w : World} {g : Nat} {v : Value} {n : Nat} {E : MxL} (h : TabF w g v n E) : TabS w v n E := by
  obtain ⟨b, c, R, e, _, h1, h2⟩ := h
  exact ⟨b, c, R, e, h1, fun i hi => by obtain ⟨b', c', e', _, h3⟩ := h2 i hi; exact ⟨b', c', e', h3⟩⟩
theorem TabF.kept {w w' : World} {g : Nat} {v : Value} {n : Nat} {E : MxL} (h : TabF w g v n E) (hg : w.grownBy w' (some g)) : TabF w' g v n E := by
  obtain ⟨b, c, R, e, hb, h1, h2⟩ := h
  have key : ∀ (x y : Nat) (u : Value), x ≠ g → w.cell? ⟨x, y, none⟩ = some u → w'.cell? ⟨x, y, none⟩ = some u := fun x y u hx hu => by
    rw [World.cell?_of_block (a := ⟨x, y, none⟩) (hg.block x (block_lt_of_cell hu) (fun e => hx (Option.some.inj e)))]
    exact hu
  exact ⟨b, c, R, e, hb, fun i hi => key _ _ _ hb (h1 i hi), fun i hi => by
    obtain ⟨b', c', e', hb', h3⟩ := h2 i hi
    exact ⟨b', c', e', hb', fun j hj q hq => key _ _ _ hb' (h3 j hj q hq)⟩⟩
theorem TabF.below {w w' : World} {g : Nat} {v : Value} {n : Nat} {E : MxL} (h : TabF w g v n E) (hb : Below w.heap.size w w') : TabF w' g v n E := h.kept (belowK_grown hb _)
theorem entM_one {p : Int} (hp : Pr p) (Ms : Nat → List Int) (i : Nat) : cf (entM p Ms i i) 1 = 1 := by
  have hp2 := hp.pos
  unfold entM
  rw [if_pos rfl, addp_cf, addp_cf, cf_nil, cf_cons_succ, cf_cons_succ, cf_nil, cf_cons_zero]
  simp
  exact Int.emod_eq_of_lt (by omega) (by omega)
/-- The table and a new list of zeros lie apart. -/
theorem TabS.apart {w : World} {v : Value} {n B g m c : Nat} {T : TypeId} {p : Int} {Ms : Nat → List Int} (hp : Pr p) (h : TabS w v n (entM p Ms)) (hL : BsL T 64 w B (.slice (some ⟨g, 0, none⟩) m c) m (fun _ => [])) (hm : n < m) (hn : 0 < n) : TabF w g v n (entM p Ms) := by
  obtain ⟨b, c', R, e, h1, h2⟩ := h
  have hz := fun i (hi : i < m) => hL.cells (by decide) i hi
  refine ⟨b, c', R, e, ?_, h1, fun i hi => ?_⟩
  · rintro rfl
    obtain ⟨b', c2, e', _⟩ := h2 0 hn
    have q1 := h1 0 hn
    have q2 := hz 0 (by omega) 0 (by decide)
    rw [Nat.zero_mul, Nat.zero_add, q1, e'] at q2
    cases q2
  · obtain ⟨b', c2, e', h3⟩ := h2 i hi
    refine ⟨b', c2, e', ?_, h3⟩
    rintro rfl
    have q1 := h3 i hi 1 (by decide)
    have q2 := hz i (by omega) 1 (by decide)
    rw [q1, entM_one hp] at q2
    cases q2
set_option maxRecDepth 20000 in
set_option maxHeartbeats 8000000 in
theorem l05Factors_any (F : Nat → Int) (p : Int) (n : Nat) (Ms : Nat → List Int) (M : MxL) (w : World) (hp : Pr p) (hn0 : 0 < n) (hn : n ≤ 6) (hF : ∀ i j, i < n → j < n → 0 ≤ F (i * 6 + j) ∧ F (i * 6 + j) < p ∧ cf (Ms i) j = F (i * 6 + j)) (hSm : Sm p n (cfm (entM p Ms)) n M) :
    Calls Try.prog 28 #[.int .i64 p, .int .i64 n, .agg (u8s 36 F)] w fun e w' => ∃ v, e = .returned v ∧ BsL 25 64 w' w.heap.size v n (fun i => monic p (M i i)) ∧ Below w.heap.size w w' := by
  have hp2 := hp.pos
  have hpH := Lib.hid hp
  have hE := Lib.hid (fun i j (_ : i < n) (_ : j < n) => (⟨entM_Po hp Ms i j, entM_len Ms i j⟩ : Po p (entM p Ms i j) ∧ (entM p Ms i j).length ≤ 2))
  obtain ⟨D, hD⟩ : ∃ D : Nat → List Int, (fun i => M i i) = D := ⟨_, rfl⟩
  have hDp := Lib.hid (fun i (hi : i < n) => by rw [← hD]; exact ⟨hSm.po i i hi hi, hSm.piv i hi⟩ : ∀ i, i < n → Po p (D i) ∧ D i ≠ [])
  have hG := Lib.hid (fun k (hk : k ≤ n) => by have := hSm.isG hp hk; rw [hD] at this; exact this : ∀ k, k ≤ n → IsG p n k (cfm (entM p Ms)) (gk p D k))
  have hGl := Lib.hid (fun k (hk : k ≤ n) => (hG.out k hk).len hp hn (by omega) hE.out)
  have hres : (fun i => monic p (M i i)) = fun i => monic p (D i) := by rw [← hD]
  rw [hres]
  have htab := Lib.hid (fun w => l05Table_any F p n Ms w hp hn0 hn hF)
  have hA := Blk.new w (u8s 36 F) 30
  have hb0 := below_new w (.cells (u8s 36 F) 30)
  have hnI : (n : Int) ≤ 6 := by omega
  clear hF hp hSm hD hres
  go_enter Try.func28, Try.ntmps28
  go_upto_region 1 with fail
  refine gen_guard (w := _) (by kernel_rfl) (by kernel_rfl) (by kernel_rfl)
      (fun i => ([fun zv _ => zv = .int .i64 p, fun zv _ => zv = .int .i64 (n : Int), fun zv _ => zv = .agg (u8s 36 F), fun v w' => TabS w' v n (entM p Ms), fun zv _ => zv = .int .i64 (n : Int), fun zv _ => zv = .int .i64 ((n : Int) + 1), fun v w' => ∃ g, v = .slice (some ⟨g, 0, none⟩) (n + 1) (n + 1) ∧ w.heap.size + 1 ≤ g ∧ BsL 25 64 w' (w.heap.size + 1) v (n + 1) (fun _ => []), fun v w' => TabS w' v n (entM p Ms), fun v w' => ∃ g, v = .slice (some ⟨g, 0, none⟩) (n + 1) (n + 1) ∧ w.heap.size + 1 ≤ g ∧ BsL 25 64 w' (w.heap.size + 1) v (n + 1) (fun _ => [])] : List (Value → World → Prop)).getD i (fun _ _ => True))
      (fun w' => Blk w' (w.heap.size) (u8s 36 F) 30 ∧ True) ⟨hA.drew, trivial⟩ (fun w1 w2 h hb => ⟨h.1.keep hb, trivial⟩) ?_ ?_ ?_
  · intro i v w1 w2 h hb
    rcases i with _|_|_|_|_|_|_|_|_|i
    · exact h
    · exact h
    · exact h
    · exact TabS.below h hb
    · exact h
    · exact h
    · obtain ⟨g, e, h1, h2⟩ := h; exact ⟨g, e, h1, h2.below hb⟩
    · exact TabS.below h hb
    · obtain ⟨g, e, h1, h2⟩ := h; exact ⟨g, e, h1, h2.below hb⟩
    · exact h
  · intro i o ho a w2 hBl hSx hrd hpar
    rcases i with _|_|_|_|_|_|_|_|_|i
    · obtain rfl := Option.some.inj ho
      refine .inl ⟨rfl, ?_⟩
      have e0 : a.eval (.tmp 0) = .int .i64 p := hpar 0 _ (by kernel_rfl) (by kernel_rfl)
      exact wpv_of (wp_move _ _ rfl e0) (fun _ _ => rfl)
    · obtain rfl := Option.some.inj ho
      refine .inl ⟨rfl, ?_⟩
      have e1 : a.eval (.tmp 1) = .int .i64 (n : Int) := hpar 1 _ (by kernel_rfl) (by kernel_rfl)
      exact wpv_of (wp_move _ _ rfl e1) (fun _ _ => rfl)
    · obtain rfl := Option.some.inj ho
      refine .inl ⟨rfl, ?_⟩
      exact wpv_of (wp_loadB 30 _ rfl _ (hpar 5 (.pointer (some ⟨w.heap.size, 0, none⟩)) (by kernel_rfl) (by kernel_rfl)) _ _ hSx.1 _ _ uSquare sSquare) (fun _ _ => rfl)
    · obtain rfl := Option.some.inj ho
      refine .inl ⟨rfl, ?_⟩
      have e15 : a.eval (.tmp 15) = .int .i64 p := hrd 0 _ 15 rfl rfl (by kernel_rfl) (by kernel_rfl)
      have e16 : a.eval (.tmp 16) = .int .i64 (n : Int) := hrd 1 _ 16 rfl rfl (by kernel_rfl) (by kernel_rfl)
      have e17 : a.eval (.tmp 17) = .agg (u8s 36 F) := hrd 2 _ 17 rfl rfl (by kernel_rfl) (by kernel_rfl)
      exact wpv_call 52 [.tmp 15, .tmp 16, .tmp 17] _ rfl [.int .i64 p, .int .i64 (n : Int), .agg (u8s 36 F)] (by simp only [List.map_cons, List.map_nil, e15, e16, e17]) Try.call52 ((htab.out w2).mono fun _ _ ⟨v, h1, h2, h3⟩ => ⟨v, h1, h2, h3⟩)
    · obtain rfl := Option.some.inj ho
      refine .inl ⟨rfl, ?_⟩
      have e1 : a.eval (.tmp 1) = .int .i64 (n : Int) := hpar 1 _ (by kernel_rfl) (by kernel_rfl)
      exact wpv_of (wp_move _ _ rfl e1) (fun _ _ => rfl)
    · obtain rfl := Option.some.inj ho
      refine .inl ⟨rfl, ?_⟩
      have e19 : a.eval (.tmp 19) = .int .i64 (n : Int) := hrd 4 _ 19 rfl rfl (by kernel_rfl) (by kernel_rfl)
      exact wpv_of (wp_inc _ _ _ rfl n e19 (by omega)) (fun _ _ => rfl)
    · obtain rfl := Option.some.inj ho
      refine .inl ⟨rfl, ?_⟩
      have e20 : a.eval (.tmp 20) = .int .i64 ((n : Int) + 1) := hrd 5 _ 20 rfl rfl (by kernel_rfl) (by kernel_rfl)
      exact wpv_make_bs _ _ _ _ rfl uTlnT iPolyB _ _ (n + 1) (by rw [e20]; exact congrArg (Value.int .i64) (by omega)) (by rw [e20]; exact congrArg (Value.int .i64) (by omega)) (by omega) _ (by have := hBl.size; rw [size_alloc] at this; omega)
    · obtain rfl := Option.some.inj ho
      refine .inl ⟨rfl, ?_⟩
      have h18 : (fun v w' => TabS w' v n (entM p Ms)) (a.eval (.tmp 18)) w2 := hrd 3 _ 18 rfl rfl (by kernel_rfl) (by kernel_rfl)
      generalize e18 : a.eval (.tmp 18) = v18 at h18
      exact wpv_of (wp_assign _ _ rfl e18) (fun w' hb => by have h := h18; exact TabS.below h hb)
    · obtain rfl := Option.some.inj ho
      refine .inl ⟨rfl, ?_⟩
      have h21 : (fun v w' => ∃ g, v = .slice (some ⟨g, 0, none⟩) (n + 1) (n + 1) ∧ w.heap.size + 1 ≤ g ∧ BsL 25 64 w' (w.heap.size + 1) v (n + 1) (fun _ => [])) (a.eval (.tmp 21)) w2 := hrd 6 _ 21 rfl rfl (by kernel_rfl) (by kernel_rfl)
      generalize e21 : a.eval (.tmp 21) = v21 at h21
      exact wpv_of (wp_assign _ _ rfl e21) (fun w' hb => by have h := h21; obtain ⟨g, e, h1, h2⟩ := h; exact ⟨g, e, h1, h2.below hb⟩)
    · simp at ho
  intro vals xA hBx hSx hc0
  have e0 : vals 0 = .int .i64 p := hc0 0 (by simp)
  have e1 : vals 1 = .int .i64 (n : Int) := hc0 1 (by simp)
  have e2 : vals 2 = .agg (u8s 36 F) := hc0 2 (by simp)
  have cA3 : (fun v w' => TabS w' v n (entM p Ms)) (vals 3) xA := hc0 3 (by simp)
  generalize ev3 : vals 3 = uA3 at cA3
  have e4 : vals 4 = .int .i64 (n : Int) := hc0 4 (by simp)
  have e5 : vals 5 = .int .i64 ((n : Int) + 1) := hc0 5 (by simp)
  have cA6 : (fun v w' => ∃ g, v = .slice (some ⟨g, 0, none⟩) (n + 1) (n + 1) ∧ w.heap.size + 1 ≤ g ∧ BsL 25 64 w' (w.heap.size + 1) v (n + 1) (fun _ => [])) (vals 6) xA := hc0 6 (by simp)
  generalize ev6 : vals 6 = uA6 at cA6
  have cA7 : (fun v w' => TabS w' v n (entM p Ms)) (vals 7) xA := hc0 7 (by simp)
  generalize ev7 : vals 7 = uA7 at cA7
  have cA8 : (fun v w' => ∃ g, v = .slice (some ⟨g, 0, none⟩) (n + 1) (n + 1) ∧ w.heap.size + 1 ≤ g ∧ BsL 25 64 w' (w.heap.size + 1) v (n + 1) (fun _ => [])) (vals 8) xA := hc0 8 (by simp)
  generalize ev8 : vals 8 = uA8 at cA8
  simp only [List.length_cons, List.length_nil, Nat.zero_add, Nat.reduceAdd, List.replicate, putAll, if_true, Act.put, List.setIfInBounds_toArray, List.set_cons_zero, List.set_cons_succ, e0, e1, e2, ev3, e4, e5, ev6, ev7, ev8]
  replace hA := hSx.1
  replace hb0 := below_step hb0 hBx
  clear hc0 hSx e0 e1 e2 ev3 e4 e5 ev6 ev7 ev8
  obtain ⟨gD, rfl, hgD, hL⟩ := cA8
  have hTF := Lib.hid (cA7.apart hpH.out hL (by omega) hn0)
  clear cA3 cA6 cA7 htab hA
  rename World => w1
  go_wp2_with fail
  go_loopw [9] (fun vk wr => ∃ k : Nat, k ≤ n + 1 ∧ vk = .int .i64 (k : Int) ∧ BsL 25 64 wr (w.heap.size + 1) (.slice (some ⟨gD, 0, none⟩) (n + 1) (n + 1)) (n + 1) (fun q => if q < k then [1] else []) ∧ Hid (TabF wr gD uA7 n (entM p Ms)) ∧ Below w.heap.size w wr) (fun vk _ => n + 1 - (intOf vk).toNat)
  case atStart => exact ⟨0, by omega, rfl, hL.ext (by decide) fun i _ => (if_neg (by omega)).symm, hTF, hb0⟩
  case round =>
    clear hL hTF hb0
    obtain ⟨k, hk, rfl, hL, hTF, hb⟩ := hrel
    by_cases hkn : k ≤ n
    · have hkI : (k : Int) ≤ (n : Int) := by omega
      go_wp2_with fail
      refine (l01One_any _).mono ?_
      rintro e w2 ⟨rfl, hn2⟩
      replace hL := hL.below hn2
      replace hTF := Lib.hid (hTF.out.below hn2)
      replace hb := below_step hb hn2
      clear hn2
      have hLS := Lib.hid hL
      have hbs := Lib.hid hb.size
      have hbb := Lib.hid hb
      clear hL hb
      go_wp2_with ((with_reducible refine wpl_guard ?_); first | (refine wpl_index_bs rfl 38 25 64 _ _ rfl uTlnT sPoly (by decide) gD (n + 1) (n + 1) k .i64 rfl rfl (by omega) ?_) | (refine wpl_store_b64 rfl 25 _ _ rfl gD k rfl [1] rfl (w.heap.size + 1) (n + 1) (n + 1) _ 25 hLS.out (by omega) sPoly ?_; intro w3 hL3 hg3))
      have hL4 := hL3.ext (M' := fun q => if q < k + 1 then [1] else []) (by decide) fun i _ => by
        show (if i = k then [1] else if i < k then [1] else []) = if i < k + 1 then [1] else []
        by_cases e : i = k
        · rw [if_pos e, if_pos (by omega)]
        · by_cases e2 : i < k
          · rw [if_neg e, if_pos e2, if_pos (by omega)]
          · rw [if_neg e, if_neg e2, if_neg (by omega)]
      have hT4 := Lib.hid (hTF.out.kept hg3)
      have hb4 := hbb.out.trans (grownK_below hg3 (fun q e => by cases e; omega) hbs.out)
      clear hL3 hLS hbs hbb hg3 hTF
      go_wp2_with fail
      go_roundw
      case rel => exact ⟨k + 1, by omega, by go_num, hL4, hT4, hb4⟩
      case measure => simp [intOf] <;> omega
    · have ekn : k = n + 1 := by omega
      subst ekn
      have hkI : ¬ (((n + 1 : Nat) : Int) ≤ (n : Int)) := by omega
      replace hL := hL.ext (M' := fun q => if q ≤ n then [1] else gk p D q) (by decide) fun i hi => by
        show (if i < n + 1 then [1] else []) = if i ≤ n then [1] else gk p D i
        rw [if_pos hi, if_pos (by omega)]
      go_wp2_with fail
      go_loopw [10] (fun vk wr => ∃ k : Nat, k ≤ n ∧ vk = .int .i64 (k : Int) ∧ BsL 25 64 wr (w.heap.size + 1) (.slice (some ⟨gD, 0, none⟩) (n + 1) (n + 1)) (n + 1) (fun q => if q ≤ k then [1] else gk p D q) ∧ Hid (TabF wr gD uA7 n (entM p Ms)) ∧ Below w.heap.size w wr) (fun vk _ => (intOf vk).toNat)
      case atStart => exact ⟨n, by omega, rfl, hL, hTF, hb⟩
      case round =>
        clear hL hTF hb
        obtain ⟨k, hk, rfl, hL, hTF, hb⟩ := hrel
        by_cases hk0 : 0 < k
        · have hkI : (0 : Int) < (k : Int) := by omega
          go_wp2_with fail
          refine (l05Divisor_any (entM p Ms) p n k (gk p D k) hpH.out hn hk hE.out _ _ hTF.out.tab (hG.out k hk)).mono ?_
          rintro e w2 ⟨rfl, hn2⟩
          replace hL := hL.below hn2
          replace hTF := Lib.hid (hTF.out.below hn2)
          replace hb := below_step hb hn2
          clear hn2
          have hLS := Lib.hid hL
          have hbs := Lib.hid hb.size
          have hbb := Lib.hid hb
          clear hL hb
          go_upto_region 10 with ((with_reducible refine wpl_guard ?_); first | (refine wpl_index_bs rfl 38 25 64 _ _ rfl uTlnT sPoly (by decide) gD (n + 1) (n + 1) k .i64 rfl rfl (by omega) ?_) | (refine wpl_store_b64 rfl 25 _ _ rfl gD k rfl (gk p D k) rfl (w.heap.size + 1) (n + 1) (n + 1) _ 25 hLS.out (by omega) sPoly ?_; intro w3 hL3 hg3))
          have hL4 := hL3.ext (M' := fun q => if q < k then [1] else gk p D q) (by decide) fun i _ => by
            show (if i = k then gk p D k else if i ≤ k then [1] else gk p D i) = if i < k then [1] else gk p D i
            by_cases e : i = k
            · rw [if_pos e, if_neg (by omega), e]
            · by_cases e2 : i < k
              · rw [if_neg e, if_pos (by omega), if_pos e2]
              · rw [if_neg e, if_neg (by omega), if_neg e2]
          have hT4 := Lib.hid (hTF.out.kept hg3)
          have hb4 := hbb.out.trans (grownK_below hg3 (fun q e => by cases e; omega) hbs.out)
          clear hL3 hLS hbs hbb hg3 hTF
          have hcl := Lib.hid (fun q (hq : q < 64) => by
            have := hL4.cells (by decide) k (by omega) q hq
            rwa [if_neg (Nat.lt_irrefl k)] at this)
          have hdeg := Lib.hid (fun w => l01Deg_list p (gk p D k) w ⟨hpH.out, (hG.out k hk).po, by have := hGl.out k hk; omega⟩)
          obtain ⟨L, hLe⟩ : ∃ L, (gk p D k).length = L := ⟨_, rfl⟩
          rw [hLe] at hdeg
          have hLeH := Lib.hid hLe
          clear hLe
          go_wp2_with ((with_reducible refine wpl_guard ?_); first | (refine wpl_index_bs rfl 38 25 64 _ _ rfl uTlnT sPoly (by decide) gD (n + 1) (n + 1) k .i64 rfl rfl (by omega) ?_) | (refine wpl_load_bs rfl 25 _ rfl 64 gD (k * 64) rfl (cf (gk p D k)) hcl.out 5 uPoly sPoly ?_))
          refine (hdeg.out _).mono ?_
          rintro e w4 ⟨rfl, hn4⟩
          replace hL4 := hL4.below hn4
          replace hT4 := Lib.hid (hT4.out.below hn4)
          replace hb4 := below_step hb4 hn4
          clear hn4 hcl hdeg
          by_cases hL1 : L = 1
          · have hz : (((L : Int) - 1) == 0) = true := by rw [hL1]; rfl
            have hL := hL4.ext (M' := gk p D) (by decide) fun i hi => by
              show (if i < k then [1] else gk p D i) = gk p D i
              by_cases e : i < k
              · rw [if_pos e, gk_down hpH.out k (fun i hi => hDp.out i (by omega)) (hLeH.out.trans hL1) i (by omega)]
              · rw [if_neg e]
            have hTF := hT4
            have hb := hb4
            clear hL4 hT4 hb4 hL1 hLeH
            go_upto_region 11 with (fail)
            rename World => wx
            have hDc := Lib.hid hL
            have hbL := Lib.hid hb
            have hL0 := BsL.void wx 25 64 (fun i => monic p (D i))
            have hn9 := below_new wx (.cells #[] 25)
            have hgDl := (hL.lt gD rfl).2
            have hbs := hb.size
            clear hTF hL hb
            go_upto_region 12 with ((with_reducible refine wpl_guard ?_); first | (refine wpl_buildSlice_voidB rfl 38 25 64 rfl uTlnT sPoly zPolyS ?_))
            replace hDc := Lib.hid (hDc.out.below hn9)
            have hb9 := Lib.hid (below_step hbL.out hn9)
            have hsz9 := hn9.size
            clear hn9 hbL
            go_wp2_with fail
            go_loopw [11, 12] (fun vo vk wr => ∃ k : Nat, k ≤ n ∧ vk = .int .i64 ((k : Int) + 1) ∧ BsL 25 64 wr wx.heap.size vo k (fun i => monic p (D i)) ∧ Hid (BsL 25 64 wr (w.heap.size + 1) (.slice (some ⟨gD, 0, none⟩) (n + 1) (n + 1)) (n + 1) (gk p D)) ∧ wx.heap.size ≤ wr.heap.size ∧ Hid (Below w.heap.size w wr)) (fun _ vk _ => n + 1 - (intOf vk).toNat)
            case atStart => exact ⟨0, by omega, rfl, hL0, hDc, hsz9, hb9⟩
            case round =>
              clear hL0 hDc hsz9 hb9
              obtain ⟨k, hk, rfl, hO, hDc, hsq, hb⟩ := hrel
              rename World => wq
              by_cases hkn : k < n
              · have hkI : ((k : Int) + 1 ≤ (n : Int)) := by omega
                have hq := Lib.hid (gk_quot hpH.out (k := k) fun i hi => hDp.out i (by omega))
                have hdv := Lib.hid (fun w => l01Divide_any (gk p D (k + 1)) (gk p D k) p w ⟨hpH.out, (hG.out (k + 1) hkn).po, by have := hGl.out (k + 1) hkn; omega⟩ ⟨hpH.out, (hG.out k hk).po, by have := hGl.out k hk; omega⟩ (hG.out k hk).ne)
                rw [hq.out] at hdv
                obtain ⟨QT, hQT⟩ : ∃ x, monic p (D k) = x := ⟨_, rfl⟩
                obtain ⟨RT, hRT⟩ : ∃ x, (divp p (gk p D (k + 1)) (gk p D k)).2 = x := ⟨_, rfl⟩
                rw [hQT, hRT] at hdv
                have hQTH := Lib.hid hQT
                clear hq hQT hRT
                go_upto_region 15 with (fail)
                refine law_region2 (by kernel_rfl) (by kernel_rfl) (by kernel_rfl) (by kernel_rfl)
                    (fun i => ([some (.int .i64 p), some (.slice (some ⟨gD, 0, none⟩) (n + 1) (n + 1)), some (.int .i64 ((k : Int) + 1)), some (.pointer (some ⟨gD, (k + 1) * 64, none⟩)), some (.agg (u8s 64 (cf (gk p D (k + 1))))), some (.slice (some ⟨gD, 0, none⟩) (n + 1) (n + 1)), some (.int .i64 ((k : Int) + 1)), some (.int .i64 (k : Int)), some (.pointer (some ⟨gD, k * 64, none⟩)), some (.agg (u8s 64 (cf (gk p D k)))), some (.tuple #[.agg (u8s 64 (cf QT)), .agg (u8s 64 (cf RT))]), some (.tuple #[.agg (u8s 64 (cf QT)), .agg (u8s 64 (cf RT))]), some (.agg (u8s 64 (cf QT))), some (.agg (u8s 64 (cf RT))), none, none, none, none] : List (Option Value)).getD i none) 2 (fun zk => [14, 15].getD zk 0) (fun zk => [16, 17].getD zk 0) (fun zk => [12, 13].getD zk 0) (fun zk => [13, 14].getD zk 0) (fun zk => [67, 68].getD zk 0) (fun zk => [64, 64].getD zk 0) (fun zk => [(cf QT), (cf RT)].getD zk (fun _ => 0)) (fun zk => [25, 25].getD zk 0) ?_ ?_ ?_ ?_ ?_ ?_
                · intro i hi
                  rcases i with _|_|_|_|_|_|_|_|_|_|_|_|_|_|_|_|_|_|i
                  · exact .inl ⟨_, rfl⟩
                  · exact .inl ⟨_, rfl⟩
                  · exact .inl ⟨_, rfl⟩
                  · exact .inl ⟨_, rfl⟩
                  · exact .inl ⟨_, rfl⟩
                  · exact .inl ⟨_, rfl⟩
                  · exact .inl ⟨_, rfl⟩
                  · exact .inl ⟨_, rfl⟩
                  · exact .inl ⟨_, rfl⟩
                  · exact .inl ⟨_, rfl⟩
                  · exact .inl ⟨_, rfl⟩
                  · exact .inl ⟨_, rfl⟩
                  · exact .inl ⟨_, rfl⟩
                  · exact .inl ⟨_, rfl⟩
                  · exact .inr (.inl ⟨0, by decide, rfl⟩)
                  · exact .inr (.inl ⟨1, by decide, rfl⟩)
                  · exact .inr (.inr ⟨0, by decide, rfl⟩)
                  · exact .inr (.inr ⟨1, by decide, rfl⟩)
                  · simp only [List.length_cons, List.length_nil] at hi; omega
                · intro k hk
                  rcases k with _|_|k
                  · exact ⟨rfl, rfl, rfl, zPoly⟩
                  · exact ⟨rfl, rfl, rfl, zPoly⟩
                  · omega
                · intro k hk k' hk'
                  rcases k with _|_|k
                  all_goals rcases k' with _|_|k'
                  all_goals first | omega | exact ⟨by decide, by decide, by decide⟩
                · intro k hk
                  rcases k with _|_|k
                  · kernel_rfl
                  · kernel_rfl
                  · omega
                · intro i o c ho hc a w9 hBw hrd hpar
                  rcases i with _|_|_|_|_|_|_|_|_|_|_|_|_|_|_|_|_|_|i
                  · obtain rfl := Option.some.inj ho
                    obtain rfl := Option.some.inj hc
                    exact wp_move _ (.int .i64 p) rfl (hpar 0 _ (by kernel_rfl) (by kernel_rfl))
                  · obtain rfl := Option.some.inj ho
                    obtain rfl := Option.some.inj hc
                    exact wp_move _ (.slice (some ⟨gD, 0, none⟩) (n + 1) (n + 1)) rfl (hpar 8 _ (by kernel_rfl) (by kernel_rfl))
                  · obtain rfl := Option.some.inj ho
                    obtain rfl := Option.some.inj hc
                    exact wp_move _ (.int .i64 ((k : Int) + 1)) rfl (hpar 12 _ (by kernel_rfl) (by kernel_rfl))
                  · obtain rfl := Option.some.inj ho
                    obtain rfl := Option.some.inj hc
                    exact wp_index_bs 38 25 64 _ _ rfl uTlnT sPoly (by decide) gD (n + 1) (n + 1) (k + 1) .i64 (hrd 1 _ _ 57 rfl rfl rfl (by kernel_rfl) (by kernel_rfl)) (((hrd 2 _ _ 58 rfl rfl rfl (by kernel_rfl) (by kernel_rfl))).trans (congrArg (Value.int .i64) (by omega))) (by omega)
                  · obtain rfl := Option.some.inj ho
                    obtain rfl := Option.some.inj hc
                    exact wp_load_bs 25 _ rfl 64 gD ((k + 1) * 64) (hrd 3 _ _ 59 rfl rfl rfl (by kernel_rfl) (by kernel_rfl)) (cf (gk p D (k + 1))) (fun q hq => (hDc.out.below hBw).cells (by decide) (k + 1) (by omega) q hq) 5 uPoly sPoly
                  · obtain rfl := Option.some.inj ho
                    obtain rfl := Option.some.inj hc
                    exact wp_move _ (.slice (some ⟨gD, 0, none⟩) (n + 1) (n + 1)) rfl (hpar 8 _ (by kernel_rfl) (by kernel_rfl))
                  · obtain rfl := Option.some.inj ho
                    obtain rfl := Option.some.inj hc
                    exact wp_move _ (.int .i64 ((k : Int) + 1)) rfl (hpar 12 _ (by kernel_rfl) (by kernel_rfl))
                  · obtain rfl := Option.some.inj ho
                    obtain rfl := Option.some.inj hc
                    exact wp_dec _ _ _ rfl k (((hrd 6 _ _ 62 rfl rfl rfl (by kernel_rfl) (by kernel_rfl))).trans (congrArg (Value.int .i64) (by omega))) (by omega)
                  · obtain rfl := Option.some.inj ho
                    obtain rfl := Option.some.inj hc
                    exact wp_index_bs 38 25 64 _ _ rfl uTlnT sPoly (by decide) gD (n + 1) (n + 1) (k) .i64 (hrd 5 _ _ 61 rfl rfl rfl (by kernel_rfl) (by kernel_rfl)) (((hrd 7 _ _ 63 rfl rfl rfl (by kernel_rfl) (by kernel_rfl))).trans (congrArg (Value.int .i64) (by omega))) (by omega)
                  · obtain rfl := Option.some.inj ho
                    obtain rfl := Option.some.inj hc
                    exact wp_load_bs 25 _ rfl 64 gD (k * 64) (hrd 8 _ _ 64 rfl rfl rfl (by kernel_rfl) (by kernel_rfl)) (cf (gk p D k)) (fun q hq => (hDc.out.below hBw).cells (by decide) (k) (by omega) q hq) 5 uPoly sPoly
                  · obtain rfl := Option.some.inj ho
                    obtain rfl := Option.some.inj hc
                    exact wp_callB 55 [.tmp 56, .tmp 60, .tmp 65] _ rfl [.int .i64 p, .agg (u8s 64 (cf (gk p D (k + 1)))), .agg (u8s 64 (cf (gk p D k)))] (by simp only [List.map_cons, List.map_nil, (hrd 0 _ _ 56 rfl rfl rfl (by kernel_rfl) (by kernel_rfl)), (hrd 4 _ _ 60 rfl rfl rfl (by kernel_rfl) (by kernel_rfl)), (hrd 9 _ _ 65 rfl rfl rfl (by kernel_rfl) (by kernel_rfl))]) Try.call55 _ (hdv.out w9)
                  · obtain rfl := Option.some.inj ho
                    obtain rfl := Option.some.inj hc
                    exact wp_move _ (.tuple #[.agg (u8s 64 (cf QT)), .agg (u8s 64 (cf RT))]) rfl (hrd 10 _ _ 66 rfl rfl rfl (by kernel_rfl) (by kernel_rfl))
                  · obtain rfl := Option.some.inj ho
                    obtain rfl := Option.some.inj hc
                    exact wp_extract _ 0 #[.agg (u8s 64 (cf QT)), .agg (u8s 64 (cf RT))] _ rfl (hrd 11 _ _ 55 rfl rfl rfl (by kernel_rfl) (by kernel_rfl)) rfl
                  · obtain rfl := Option.some.inj ho
                    obtain rfl := Option.some.inj hc
                    exact wp_extract _ 1 #[.agg (u8s 64 (cf QT)), .agg (u8s 64 (cf RT))] _ rfl (hrd 11 _ _ 55 rfl rfl rfl (by kernel_rfl) (by kernel_rfl)) rfl
                  · cases hc
                  · cases hc
                  · cases hc
                  · cases hc
                  · cases hc
                intro vals xK hBw hc hr
                have e0 : vals 0 = .int .i64 p := hc 0 _ (by simp) rfl
                have e1 : vals 1 = .slice (some ⟨gD, 0, none⟩) (n + 1) (n + 1) := hc 1 _ (by simp) rfl
                have e2 : vals 2 = .int .i64 ((k : Int) + 1) := hc 2 _ (by simp) rfl
                have e3 : vals 3 = .pointer (some ⟨gD, (k + 1) * 64, none⟩) := hc 3 _ (by simp) rfl
                have e4 : vals 4 = .agg (u8s 64 (cf (gk p D (k + 1)))) := hc 4 _ (by simp) rfl
                have e5 : vals 5 = .slice (some ⟨gD, 0, none⟩) (n + 1) (n + 1) := hc 5 _ (by simp) rfl
                have e6 : vals 6 = .int .i64 ((k : Int) + 1) := hc 6 _ (by simp) rfl
                have e7 : vals 7 = .int .i64 (k : Int) := hc 7 _ (by simp) rfl
                have e8 : vals 8 = .pointer (some ⟨gD, k * 64, none⟩) := hc 8 _ (by simp) rfl
                have e9 : vals 9 = .agg (u8s 64 (cf (gk p D k))) := hc 9 _ (by simp) rfl
                have e10 : vals 10 = .tuple #[.agg (u8s 64 (cf QT)), .agg (u8s 64 (cf RT))] := hc 10 _ (by simp) rfl
                have e11 : vals 11 = .tuple #[.agg (u8s 64 (cf QT)), .agg (u8s 64 (cf RT))] := hc 11 _ (by simp) rfl
                have e12 : vals 12 = .agg (u8s 64 (cf QT)) := hc 12 _ (by simp) rfl
                have e13 : vals 13 = .agg (u8s 64 (cf RT)) := hc 13 _ (by simp) rfl
                obtain ⟨gK0, p0, hgK0, hK0⟩ : ∃ g, vals 14 = .pointer (some ⟨g, 0, none⟩) ∧ _ ≤ g ∧ Blk xK g (u8s 64 (cf QT)) 25 := hr 0 (by decide)
                obtain ⟨gK1, p1, hgK1, hK1⟩ : ∃ g, vals 15 = .pointer (some ⟨g, 0, none⟩) ∧ _ ≤ g ∧ Blk xK g (u8s 64 (cf RT)) 25 := hr 1 (by decide)
                simp only [List.length_cons, List.length_nil, Nat.zero_add, Nat.reduceAdd, List.replicate, putAll, if_true, Act.put, List.setIfInBounds_toArray, List.set_cons_zero, List.set_cons_succ, e0, e1, e2, e3, e4, e5, e6, e7, e8, e9, e10, e11, e12, e13, p0, p1]
                clear hc hr e0 e1 e2 e3 e4 e5 e6 e7 e8 e9 e10 e11 e12 e13 p0 p1
                have hO2 := Lib.hid (hO.below hBw)
                have hD2 := Lib.hid (hDc.out.below hBw)
                have hb2 := Lib.hid (below_step hb.out hBw)
                have hsz := Nat.le_trans hsq hBw.size
                clear hO hDc hb hBw hdv
                have hn := below_new xK (.cells (u8s 64 (cf QT)) 25)
                have hB3 := Lib.hid (hO2.out.below hn)
                have hD3 := Lib.hid (hD2.out.below hn)
                have hb3 := Lib.hid (below_step hb2.out hn)
                have nw := Lib.hid (arr_news xK 64 25 QT)
                have hbs := Lib.hid (Nat.le_trans hsz hn.size)
                clear hn hO2 hD2 hb2 hsz hsq
                go_wp2_with ((with_reducible refine wpl_guard ?_); first | (refine wpl_load_arr rfl 25 _ rfl _ rfl _ _ hK0 _ _ uPoly sPoly ?_) | (refine wpl_buildSlice_arr rfl 38 25 64 _ rfl uTlnT sPoly zPoly (by decide) (by decide) (cf QT) rfl ?_) | (at_builtin; refine wpl_append_farB rfl _ _ 38 rfl (wx.heap.size) 25 _ 64 64 uTlnT iPolyB (by simp [Value.cells, u8s_size]) (by decide) (by decide) _ k _ rfl hB3.out ⟨xK.heap.size, 0, none⟩ rfl (u8s 64 (cf QT)).toList (by rw [Array.length_toList, u8s_size]) (fun j u h => by rw [addr_add]; exact nw.out j u h) (arr_ones 64 QT) (by omega) hbs.out ?_))
                intro v5 w5 hown5 hg5 _
                have hB5 := BsL.snoc (M := fun i => monic p (D i)) (by decide) hQTH.out hown5
                have hD5 := Lib.hid (hD3.out.kept hg5 (.inr fun e => by have := (hB3.out.lt gD e.symm).1; omega))
                have hb5 := Lib.hid (bsl_low hb3.out hB3.out (by omega) (Nat.le_trans (by omega) hbs.out) hg5)
                have hs5 := Lib.hid (Nat.le_trans hbs.out hg5.size)
                clear hown5 hg5 hB3 hD3 hb3 nw hbs
                go_wp2_with fail
                go_roundw
                case rel => exact ⟨k + 1, by omega, by go_num, hB5, hD5, hs5.out, hb5⟩
                case measure => simp [intOf] <;> omega
              · have ekn : n = k := by omega
                subst ekn
                have hO2 := Lib.hid (hO.mono (by omega : w.heap.size ≤ wx.heap.size))
                have hkI : ¬ ((n : Int) + 1 ≤ (n : Int)) := by omega
                clear hO hDc
                go_wp2_with fail
                go_ret
                exact ⟨_, rfl, hO2.out, hb.out⟩
          · have hz : (((L : Int) - 1) == 0) = false := by rw [beq_eq_false_iff_ne]; omega
            have hL5 := hL4.ext (M' := fun q => if q ≤ k - 1 then [1] else gk p D q) (by decide) fun i _ => by
              show (if i < k then [1] else gk p D i) = if i ≤ k - 1 then [1] else gk p D i
              by_cases e : i < k
              · rw [if_pos e, if_pos (by omega)]
              · rw [if_neg e, if_neg (by omega)]
            clear hL4 hLeH
            go_wp2_with fail
            go_roundw
            case rel => exact ⟨k - 1, by omega, by go_num, hL5, hT4, hb4⟩
            case measure => simp [intOf] <;> omega
        · obtain rfl : k = 0 := by omega
          replace hL := hL.ext (M' := gk p D) (by decide) fun i hi => by
            show (if i ≤ 0 then [1] else gk p D i) = gk p D i
            by_cases e : i ≤ 0
            · obtain rfl : i = 0 := by omega
              rfl
            · rw [if_neg e]
          go_upto_region 11 with (fail)
          rename World => wx
          have hDc := Lib.hid hL
          have hbL := Lib.hid hb
          have hL0 := BsL.void wx 25 64 (fun i => monic p (D i))
          have hn9 := below_new wx (.cells #[] 25)
          have hgDl := (hL.lt gD rfl).2
          have hbs := hb.size
          clear hTF hL hb
          go_upto_region 12 with ((with_reducible refine wpl_guard ?_); first | (refine wpl_buildSlice_voidB rfl 38 25 64 rfl uTlnT sPoly zPolyS ?_))
          replace hDc := Lib.hid (hDc.out.below hn9)
          have hb9 := Lib.hid (below_step hbL.out hn9)
          have hsz9 := hn9.size
          clear hn9 hbL
          go_wp2_with fail
          go_loopw [11, 12] (fun vo vk wr => ∃ k : Nat, k ≤ n ∧ vk = .int .i64 ((k : Int) + 1) ∧ BsL 25 64 wr wx.heap.size vo k (fun i => monic p (D i)) ∧ Hid (BsL 25 64 wr (w.heap.size + 1) (.slice (some ⟨gD, 0, none⟩) (n + 1) (n + 1)) (n + 1) (gk p D)) ∧ wx.heap.size ≤ wr.heap.size ∧ Hid (Below w.heap.size w wr)) (fun _ vk _ => n + 1 - (intOf vk).toNat)
          case atStart => exact ⟨0, by omega, rfl, hL0, hDc, hsz9, hb9⟩
          case round =>
            clear hL0 hDc hsz9 hb9
            obtain ⟨k, hk, rfl, hO, hDc, hsq, hb⟩ := hrel
            rename World => wq
            by_cases hkn : k < n
            · have hkI : ((k : Int) + 1 ≤ (n : Int)) := by omega
              have hq := Lib.hid (gk_quot hpH.out (k := k) fun i hi => hDp.out i (by omega))
              have hdv := Lib.hid (fun w => l01Divide_any (gk p D (k + 1)) (gk p D k) p w ⟨hpH.out, (hG.out (k + 1) hkn).po, by have := hGl.out (k + 1) hkn; omega⟩ ⟨hpH.out, (hG.out k hk).po, by have := hGl.out k hk; omega⟩ (hG.out k hk).ne)
              rw [hq.out] at hdv
              obtain ⟨QT, hQT⟩ : ∃ x, monic p (D k) = x := ⟨_, rfl⟩
              obtain ⟨RT, hRT⟩ : ∃ x, (divp p (gk p D (k + 1)) (gk p D k)).2 = x := ⟨_, rfl⟩
              rw [hQT, hRT] at hdv
              have hQTH := Lib.hid hQT
              clear hq hQT hRT
              go_upto_region 15 with (fail)
              refine law_region2 (by kernel_rfl) (by kernel_rfl) (by kernel_rfl) (by kernel_rfl)
                  (fun i => ([some (.int .i64 p), some (.slice (some ⟨gD, 0, none⟩) (n + 1) (n + 1)), some (.int .i64 ((k : Int) + 1)), some (.pointer (some ⟨gD, (k + 1) * 64, none⟩)), some (.agg (u8s 64 (cf (gk p D (k + 1))))), some (.slice (some ⟨gD, 0, none⟩) (n + 1) (n + 1)), some (.int .i64 ((k : Int) + 1)), some (.int .i64 (k : Int)), some (.pointer (some ⟨gD, k * 64, none⟩)), some (.agg (u8s 64 (cf (gk p D k)))), some (.tuple #[.agg (u8s 64 (cf QT)), .agg (u8s 64 (cf RT))]), some (.tuple #[.agg (u8s 64 (cf QT)), .agg (u8s 64 (cf RT))]), some (.agg (u8s 64 (cf QT))), some (.agg (u8s 64 (cf RT))), none, none, none, none] : List (Option Value)).getD i none) 2 (fun zk => [14, 15].getD zk 0) (fun zk => [16, 17].getD zk 0) (fun zk => [12, 13].getD zk 0) (fun zk => [13, 14].getD zk 0) (fun zk => [67, 68].getD zk 0) (fun zk => [64, 64].getD zk 0) (fun zk => [(cf QT), (cf RT)].getD zk (fun _ => 0)) (fun zk => [25, 25].getD zk 0) ?_ ?_ ?_ ?_ ?_ ?_
              · intro i hi
                rcases i with _|_|_|_|_|_|_|_|_|_|_|_|_|_|_|_|_|_|i
                · exact .inl ⟨_, rfl⟩
                · exact .inl ⟨_, rfl⟩
                · exact .inl ⟨_, rfl⟩
                · exact .inl ⟨_, rfl⟩
                · exact .inl ⟨_, rfl⟩
                · exact .inl ⟨_, rfl⟩
                · exact .inl ⟨_, rfl⟩
                · exact .inl ⟨_, rfl⟩
                · exact .inl ⟨_, rfl⟩
                · exact .inl ⟨_, rfl⟩
                · exact .inl ⟨_, rfl⟩
                · exact .inl ⟨_, rfl⟩
                · exact .inl ⟨_, rfl⟩
                · exact .inl ⟨_, rfl⟩
                · exact .inr (.inl ⟨0, by decide, rfl⟩)
                · exact .inr (.inl ⟨1, by decide, rfl⟩)
                · exact .inr (.inr ⟨0, by decide, rfl⟩)
                · exact .inr (.inr ⟨1, by decide, rfl⟩)
                · simp only [List.length_cons, List.length_nil] at hi; omega
              · intro k hk
                rcases k with _|_|k
                · exact ⟨rfl, rfl, rfl, zPoly⟩
                · exact ⟨rfl, rfl, rfl, zPoly⟩
                · omega
              · intro k hk k' hk'
                rcases k with _|_|k
                all_goals rcases k' with _|_|k'
                all_goals first | omega | exact ⟨by decide, by decide, by decide⟩
              · intro k hk
                rcases k with _|_|k
                · kernel_rfl
                · kernel_rfl
                · omega
              · intro i o c ho hc a w9 hBw hrd hpar
                rcases i with _|_|_|_|_|_|_|_|_|_|_|_|_|_|_|_|_|_|i
                · obtain rfl := Option.some.inj ho
                  obtain rfl := Option.some.inj hc
                  exact wp_move _ (.int .i64 p) rfl (hpar 0 _ (by kernel_rfl) (by kernel_rfl))
                · obtain rfl := Option.some.inj ho
                  obtain rfl := Option.some.inj hc
                  exact wp_move _ (.slice (some ⟨gD, 0, none⟩) (n + 1) (n + 1)) rfl (hpar 8 _ (by kernel_rfl) (by kernel_rfl))
                · obtain rfl := Option.some.inj ho
                  obtain rfl := Option.some.inj hc
                  exact wp_move _ (.int .i64 ((k : Int) + 1)) rfl (hpar 12 _ (by kernel_rfl) (by kernel_rfl))
                · obtain rfl := Option.some.inj ho
                  obtain rfl := Option.some.inj hc
                  exact wp_index_bs 38 25 64 _ _ rfl uTlnT sPoly (by decide) gD (n + 1) (n + 1) (k + 1) .i64 (hrd 1 _ _ 57 rfl rfl rfl (by kernel_rfl) (by kernel_rfl)) (((hrd 2 _ _ 58 rfl rfl rfl (by kernel_rfl) (by kernel_rfl))).trans (congrArg (Value.int .i64) (by omega))) (by omega)
                · obtain rfl := Option.some.inj ho
                  obtain rfl := Option.some.inj hc
                  exact wp_load_bs 25 _ rfl 64 gD ((k + 1) * 64) (hrd 3 _ _ 59 rfl rfl rfl (by kernel_rfl) (by kernel_rfl)) (cf (gk p D (k + 1))) (fun q hq => (hDc.out.below hBw).cells (by decide) (k + 1) (by omega) q hq) 5 uPoly sPoly
                · obtain rfl := Option.some.inj ho
                  obtain rfl := Option.some.inj hc
                  exact wp_move _ (.slice (some ⟨gD, 0, none⟩) (n + 1) (n + 1)) rfl (hpar 8 _ (by kernel_rfl) (by kernel_rfl))
                · obtain rfl := Option.some.inj ho
                  obtain rfl := Option.some.inj hc
                  exact wp_move _ (.int .i64 ((k : Int) + 1)) rfl (hpar 12 _ (by kernel_rfl) (by kernel_rfl))
                · obtain rfl := Option.some.inj ho
                  obtain rfl := Option.some.inj hc
                  exact wp_dec _ _ _ rfl k (((hrd 6 _ _ 62 rfl rfl rfl (by kernel_rfl) (by kernel_rfl))).trans (congrArg (Value.int .i64) (by omega))) (by omega)
                · obtain rfl := Option.some.inj ho
                  obtain rfl := Option.some.inj hc
                  exact wp_index_bs 38 25 64 _ _ rfl uTlnT sPoly (by decide) gD (n + 1) (n + 1) (k) .i64 (hrd 5 _ _ 61 rfl rfl rfl (by kernel_rfl) (by kernel_rfl)) (((hrd 7 _ _ 63 rfl rfl rfl (by kernel_rfl) (by kernel_rfl))).trans (congrArg (Value.int .i64) (by omega))) (by omega)
                · obtain rfl := Option.some.inj ho
                  obtain rfl := Option.some.inj hc
                  exact wp_load_bs 25 _ rfl 64 gD (k * 64) (hrd 8 _ _ 64 rfl rfl rfl (by kernel_rfl) (by kernel_rfl)) (cf (gk p D k)) (fun q hq => (hDc.out.below hBw).cells (by decide) (k) (by omega) q hq) 5 uPoly sPoly
                · obtain rfl := Option.some.inj ho
                  obtain rfl := Option.some.inj hc
                  exact wp_callB 55 [.tmp 56, .tmp 60, .tmp 65] _ rfl [.int .i64 p, .agg (u8s 64 (cf (gk p D (k + 1)))), .agg (u8s 64 (cf (gk p D k)))] (by simp only [List.map_cons, List.map_nil, (hrd 0 _ _ 56 rfl rfl rfl (by kernel_rfl) (by kernel_rfl)), (hrd 4 _ _ 60 rfl rfl rfl (by kernel_rfl) (by kernel_rfl)), (hrd 9 _ _ 65 rfl rfl rfl (by kernel_rfl) (by kernel_rfl))]) Try.call55 _ (hdv.out w9)
                · obtain rfl := Option.some.inj ho
                  obtain rfl := Option.some.inj hc
                  exact wp_move _ (.tuple #[.agg (u8s 64 (cf QT)), .agg (u8s 64 (cf RT))]) rfl (hrd 10 _ _ 66 rfl rfl rfl (by kernel_rfl) (by kernel_rfl))
                · obtain rfl := Option.some.inj ho
                  obtain rfl := Option.some.inj hc
                  exact wp_extract _ 0 #[.agg (u8s 64 (cf QT)), .agg (u8s 64 (cf RT))] _ rfl (hrd 11 _ _ 55 rfl rfl rfl (by kernel_rfl) (by kernel_rfl)) rfl
                · obtain rfl := Option.some.inj ho
                  obtain rfl := Option.some.inj hc
                  exact wp_extract _ 1 #[.agg (u8s 64 (cf QT)), .agg (u8s 64 (cf RT))] _ rfl (hrd 11 _ _ 55 rfl rfl rfl (by kernel_rfl) (by kernel_rfl)) rfl
                · cases hc
                · cases hc
                · cases hc
                · cases hc
                · cases hc
              intro vals xK hBw hc hr
              have e0 : vals 0 = .int .i64 p := hc 0 _ (by simp) rfl
              have e1 : vals 1 = .slice (some ⟨gD, 0, none⟩) (n + 1) (n + 1) := hc 1 _ (by simp) rfl
              have e2 : vals 2 = .int .i64 ((k : Int) + 1) := hc 2 _ (by simp) rfl
              have e3 : vals 3 = .pointer (some ⟨gD, (k + 1) * 64, none⟩) := hc 3 _ (by simp) rfl
              have e4 : vals 4 = .agg (u8s 64 (cf (gk p D (k + 1)))) := hc 4 _ (by simp) rfl
              have e5 : vals 5 = .slice (some ⟨gD, 0, none⟩) (n + 1) (n + 1) := hc 5 _ (by simp) rfl
              have e6 : vals 6 = .int .i64 ((k : Int) + 1) := hc 6 _ (by simp) rfl
              have e7 : vals 7 = .int .i64 (k : Int) := hc 7 _ (by simp) rfl
              have e8 : vals 8 = .pointer (some ⟨gD, k * 64, none⟩) := hc 8 _ (by simp) rfl
              have e9 : vals 9 = .agg (u8s 64 (cf (gk p D k))) := hc 9 _ (by simp) rfl
              have e10 : vals 10 = .tuple #[.agg (u8s 64 (cf QT)), .agg (u8s 64 (cf RT))] := hc 10 _ (by simp) rfl
              have e11 : vals 11 = .tuple #[.agg (u8s 64 (cf QT)), .agg (u8s 64 (cf RT))] := hc 11 _ (by simp) rfl
              have e12 : vals 12 = .agg (u8s 64 (cf QT)) := hc 12 _ (by simp) rfl
              have e13 : vals 13 = .agg (u8s 64 (cf RT)) := hc 13 _ (by simp) rfl
              obtain ⟨gK0, p0, hgK0, hK0⟩ : ∃ g, vals 14 = .pointer (some ⟨g, 0, none⟩) ∧ _ ≤ g ∧ Blk xK g (u8s 64 (cf QT)) 25 := hr 0 (by decide)
              obtain ⟨gK1, p1, hgK1, hK1⟩ : ∃ g, vals 15 = .pointer (some ⟨g, 0, none⟩) ∧ _ ≤ g ∧ Blk xK g (u8s 64 (cf RT)) 25 := hr 1 (by decide)
              simp only [List.length_cons, List.length_nil, Nat.zero_add, Nat.reduceAdd, List.replicate, putAll, if_true, Act.put, List.setIfInBounds_toArray, List.set_cons_zero, List.set_cons_succ, e0, e1, e2, e3, e4, e5, e6, e7, e8, e9, e10, e11, e12, e13, p0, p1]
              clear hc hr e0 e1 e2 e3 e4 e5 e6 e7 e8 e9 e10 e11 e12 e13 p0 p1
              have hO2 := Lib.hid (hO.below hBw)
              have hD2 := Lib.hid (hDc.out.below hBw)
              have hb2 := Lib.hid (below_step hb.out hBw)
              have hsz := Nat.le_trans hsq hBw.size
              clear hO hDc hb hBw hdv
              have hn := below_new xK (.cells (u8s 64 (cf QT)) 25)
              have hB3 := Lib.hid (hO2.out.below hn)
              have hD3 := Lib.hid (hD2.out.below hn)
              have hb3 := Lib.hid (below_step hb2.out hn)
              have nw := Lib.hid (arr_news xK 64 25 QT)
              have hbs := Lib.hid (Nat.le_trans hsz hn.size)
              clear hn hO2 hD2 hb2 hsz hsq
              go_wp2_with ((with_reducible refine wpl_guard ?_); first | (refine wpl_load_arr rfl 25 _ rfl _ rfl _ _ hK0 _ _ uPoly sPoly ?_) | (refine wpl_buildSlice_arr rfl 38 25 64 _ rfl uTlnT sPoly zPoly (by decide) (by decide) (cf QT) rfl ?_) | (at_builtin; refine wpl_append_farB rfl _ _ 38 rfl (wx.heap.size) 25 _ 64 64 uTlnT iPolyB (by simp [Value.cells, u8s_size]) (by decide) (by decide) _ k _ rfl hB3.out ⟨xK.heap.size, 0, none⟩ rfl (u8s 64 (cf QT)).toList (by rw [Array.length_toList, u8s_size]) (fun j u h => by rw [addr_add]; exact nw.out j u h) (arr_ones 64 QT) (by omega) hbs.out ?_))
              intro v5 w5 hown5 hg5 _
              have hB5 := BsL.snoc (M := fun i => monic p (D i)) (by decide) hQTH.out hown5
              have hD5 := Lib.hid (hD3.out.kept hg5 (.inr fun e => by have := (hB3.out.lt gD e.symm).1; omega))
              have hb5 := Lib.hid (bsl_low hb3.out hB3.out (by omega) (Nat.le_trans (by omega) hbs.out) hg5)
              have hs5 := Lib.hid (Nat.le_trans hbs.out hg5.size)
              clear hown5 hg5 hB3 hD3 hb3 nw hbs
              go_wp2_with fail
              go_roundw
              case rel => exact ⟨k + 1, by omega, by go_num, hB5, hD5, hs5.out, hb5⟩
              case measure => simp [intOf] <;> omega
            · have ekn : n = k := by omega
              subst ekn
              have hO2 := Lib.hid (hO.mono (by omega : w.heap.size ≤ wx.heap.size))
              have hkI : ¬ ((n : Int) + 1 ≤ (n : Int)) := by omega
              clear hO hDc
              go_wp2_with fail
              go_ret
              exact ⟨_, rfl, hO2.out, hb.out⟩
end Go.Proofs.Ytnkkkgaojhkniab

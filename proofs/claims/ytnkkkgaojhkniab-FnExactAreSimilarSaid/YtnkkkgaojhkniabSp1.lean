/- Walks: the reference's table of polynomials. -/
import Derived.Test.YtnkkkgaojhkniabMt8
import Derived.Test.YtnkkkgaojhkniabBsM
set_option linter.unusedVariables false
set_option linter.unusedSimpArgs false
namespace Go.Proofs.Ytnkkkgaojhkniab
open Go.RowKit
theorem uTabT : Try.prog.underlying 71 = some (.slice 38) := by kernel_rfl
theorem uTlnT : Try.prog.underlying 38 = some (.slice 25) := by kernel_rfl
theorem sTlnT : (Try.prog.info? 38).map (·.size) = some 1 := by kernel_rfl
theorem iTln : (Try.prog.info? 38).map (fun i => (i.zero, i.size, i.bytes)) = some (some (.slice none 0 0), 1, 24) := by kernel_rfl
theorem iPolyB : (Try.prog.info? 25).map (fun i => (i.zero, i.size, i.bytes)) = some (some (.agg (u8s 64 fun _ => 0)), 64, 64) := by kernel_rfl
theorem zTln : ((Try.prog.info? 38).bind (·.zero)).isSome = true := by kernel_rfl
theorem zPolyS : ((Try.prog.info? 25).bind (·.zero)).isSome = true := by kernel_rfl
/-- A line of n polynomials that may be read. -/
def LnC (w : World) (v : Value) (n : Nat) (E : Nat → List Int) : Prop := ∃ (b c : Nat), v = .slice (some ⟨b, 0, none⟩) n c ∧ ∀ j, j < n → ∀ q, q < 64 → w.cell? ⟨b, j * 64 + q, none⟩ = some (.int .u8 (cf (E j) q))
theorem LnC.below {w w' : World} {v : Value} {n : Nat} {E : Nat → List Int} (h : LnC w v n E) (hb : Below w.heap.size w w') : LnC w' v n E := by
  obtain ⟨b, c, e, h⟩ := h
  exact ⟨b, c, e, fun j hj q hq => cell_below (h j hj q hq) hb⟩
/-- A table of polynomials that may be read. -/
def TabS (w : World) (v : Value) (n : Nat) (E : MxL) : Prop := ∃ (g c : Nat) (R : Nat → Value), v = .slice (some ⟨g, 0, none⟩) n c ∧ (∀ i, i < n → w.cell? ⟨g, i, none⟩ = some (R i)) ∧ ∀ i, i < n → LnC w (R i) n (E i)
theorem TabS.below {w w' : World} {v : Value} {n : Nat} {E : MxL} (h : TabS w v n E) (hb : Below w.heap.size w w') : TabS w' v n E := by
  obtain ⟨g, c, R, e, h1, h2⟩ := h
  exact ⟨g, c, R, e, fun i hi => cell_below (h1 i hi) hb, fun i hi => (h2 i hi).below hb⟩
/-- Numbers stay where a list of slices grows. -/
theorem cell_grow {w w' : World} {a : Addr} {k : IntKind} {z : Int} {base e q : Nat} {v : Value} {R : Nat → Value} (h : w.cell? a = some (.int k z)) (ha : a.spot = none) (hL : LineB w base e v q R) (hg : w.grownBy w' v.ownBlock) : w'.cell? a = some (.int k z) := by
  refine hg.cell h fun e2 => ?_
  rcases hL with ⟨rfl, _⟩ | ⟨b, c, rfl, _, _, _, hB, hs⟩
  · cases e2
  · injection e2 with e2
    obtain ⟨ab, ao, sp⟩ := a
    subst ha
    have e3 : ab = b := e2
    subst e3
    rw [hB.cell, arr_get] at h
    split at h
    · obtain ⟨x, m, y, h7⟩ := hs ao
      rw [h7] at h; cases h
    · cases h
theorem LnC.grow {w w' : World} {v vo : Value} {n base e q : Nat} {E : Nat → List Int} {R : Nat → Value} (h : LnC w v n E) (hL : LineB w base e vo q R) (hg : w.grownBy w' vo.ownBlock) : LnC w' v n E := by
  obtain ⟨b, c, e, h⟩ := h
  exact ⟨b, c, e, fun j hj q hq => cell_grow (h j hj q hq) rfl hL hg⟩
theorem BsL.lnC {w : World} {T B n : Nat} {v : Value} {E : Nat → List Int} (hn : 0 < n) (h : BsL T 64 w B v n E) : LnC w v n E := by
  obtain ⟨g, c, rfl, _⟩ := h.form hn
  exact ⟨g, c, rfl, fun j hj q hq => h.cells (by decide) j hj q hq⟩
theorem bsl_low {T m B C n : Nat} {w0 w w' : World} {v : Value} {M : Nat → List Int} (hb : Below C w0 w) (hL : BsL T m w B v n M) (hB : C ≤ B) (hBs : C ≤ w.heap.size) (hg : w.grownBy w' v.ownBlock) : Below C w0 w' :=
  hb.trans ⟨hg.os, hg.tape, hg.output, hg.size, fun k hk => hg.block k (by omega) (fun e => by have := (hL.lt k e.symm).1; omega)⟩
theorem entry_cells {p z s : Int} (hp : Pr p) (hs0 : 0 ≤ s) (hs1 : s < p) (hz : z = (p - s) % p) (Ms : Nat → List Int) (r q : Nat) (hM : cf (Ms r) q = s) (j : Nat) : (if j = 0 then z else if j = 1 ∧ r = q then 1 else 0) = cf (entM p Ms r q) j := by
  have hp2 := hp.pos
  subst hz hM
  have e0 : (-1 * cf (Ms r) q) % p = (p - cf (Ms r) q) % p := by rw [show p - cf (Ms r) q = -1 * cf (Ms r) q + p by omega, Int.add_emod_right]
  unfold entM
  by_cases e : r = q
  · rw [if_pos e, addp_cf, addp_cf, cf_nil, Int.zero_add, Int.one_mul]
    rcases j with _ | _ | j
    · rw [if_pos rfl, cf_cons_zero, cf_cons_zero, Int.add_zero, e0, Int.emod_emod_of_dvd _ (Int.dvd_refl p)]
    · rw [if_neg (by omega), if_pos ⟨rfl, e⟩, cf_cons_succ, cf_cons_succ, cf_nil, cf_cons_zero]
      simp only [Int.mul_zero, Int.zero_emod, Int.zero_add]
      exact (Int.emod_eq_of_lt (by omega) (by omega)).symm
    · rw [if_neg (by omega), if_neg (by omega), cf_cons_succ, cf_cons_succ, cf_nil, cf_cons_succ, cf_nil]; simp
  · rw [if_neg e, addp_cf, cf_nil, Int.zero_add]
    rcases j with _ | j
    · rw [if_pos rfl, cf_cons_zero, e0]
    · rw [if_neg (by omega), if_neg (by omega), cf_cons_succ, cf_nil]; simp
theorem LineB.tab {w : World} {base e n : Nat} {v : Value} {R : Nat → Value} {E : MxL} (h : LineB w base e v n R) (hn : 0 < n) (hR : ∀ i, i < n → LnC w (R i) n (E i)) : TabS w v n E := by
  rcases h with ⟨_, h1⟩ | ⟨b, c, h1, h2, h3, h4, h5, h6⟩
  · omega
  · exact ⟨b, c, R, h1, fun i hi => by rw [h5.cell]; exact arr_get_lt R (by omega), hR⟩
set_option maxRecDepth 20000 in
set_option maxHeartbeats 8000000 in
theorem l05Table_any (F : Nat → Int) (p : Int) (n : Nat) (Ms : Nat → List Int) (w : World) (hp : Pr p) (hn0 : 0 < n) (hn : n ≤ 6) (hF : ∀ i j, i < n → j < n → 0 ≤ F (i * 6 + j) ∧ F (i * 6 + j) < p ∧ cf (Ms i) j = F (i * 6 + j)) :
    Calls Try.prog 52 #[.int .i64 p, .int .i64 n, .agg (u8s 36 F)] w fun e w' => ∃ v, e = .returned v ∧ TabS w' v n (entM p Ms) ∧ Below w.heap.size w w' := by
  have hp2 := hp.pos
  have hpH := Lib.hid hp
  have hFH := Lib.hid hF
  have hA := Blk.new w (u8s 36 F) 30
  have hb0 := below_new w (.cells (u8s 36 F) 30)
  have hnI : (n : Int) ≤ 6 := by omega
  clear hF hp
  go_enter Try.func52, Try.ntmps52
  go_wp2_with ((with_reducible refine wpl_guard ?_); first | (refine wpl_buildSlice_voidB rfl 71 38 1 rfl uTabT sTlnT zTln ?_))
  have hn := below_new (w.alloc (.cells (u8s 36 F) 30)) (.cells #[] 38)
  have hL0' : LineB ((w.alloc (.cells (u8s 36 F) 30)).alloc (.cells #[] 38)) (w.alloc (.cells (u8s 36 F) 30)).heap.size 38 (.slice (some ⟨(w.alloc (.cells (u8s 36 F) 30)).heap.size, 0, none⟩) 0 0) 0 (fun _ => .slice none 0 0) := .inr ⟨_, 0, rfl, Nat.le_refl _, Nat.le_refl _, Nat.zero_le _, (Blk.new (w.alloc (.cells (u8s 36 F) 30)) #[] 38).cast (by unfold arr; rfl), fun j => ⟨none, 0, 0, rfl⟩⟩
  have hL0 := Lib.hid hL0'
  clear hL0'
  replace hA := hA.keep hn
  replace hb0 := below_step hb0 hn
  rw [size_alloc] at hL0
  go_loopw [7, 8] (fun vo vi wr => ∃ (r : Nat) (R : Nat → Value), r ≤ n ∧ vi = .int .i64 (r : Int) ∧ LineB wr (w.heap.size + 1) 38 vo r R ∧ Hid (∀ i, i < r → LnC wr (R i) n (entM p Ms i)) ∧ Blk wr w.heap.size (u8s 36 F) 30 ∧ Below w.heap.size w wr) (fun _ vi _ => n - (intOf vi).toNat)
  case atStart => exact ⟨0, _, by omega, rfl, hL0.out, Lib.hid fun i h => absurd h (by omega), hA, hb0⟩
  case round =>
    clear hA hb0 hL0 hn
    obtain ⟨r, R, hr, rfl, hL, hRows, hA, hb⟩ := hrel
    rename World => w0
    by_cases hrn : r < n
    · have hrI : (r : Int) < (n : Int) := by omega
      have hL9 := Lib.hid hL
      have hA9 := Lib.hid hA
      have hb9 := Lib.hid hb
      have hv0 := BsL.void w0 25 64 (entM p Ms r)
      have hn0 := below_new w0 (.cells #[] 25)
      clear hL hA hb
      go_wp2_with ((with_reducible refine wpl_guard ?_); first | (refine wpl_buildSlice_voidB rfl 38 25 64 rfl uTlnT sPoly zPolyS ?_))
      go_loopw [9, 10] (fun vr vj wq => ∃ q : Nat, q ≤ n ∧ vj = .int .i64 (q : Int) ∧ BsL 25 64 wq w0.heap.size vr q (entM p Ms r) ∧ Below w0.heap.size w0 wq) (fun _ vj _ => n - (intOf vj).toNat)
      case atStart => exact ⟨0, by omega, rfl, hv0, hn0⟩
      case round =>
        clear hv0 hn0
        obtain ⟨q, hq, rfl, hB, hbq⟩ := hrel
        rename World => wq
        by_cases hqn : q < n
        · have hqI : (q : Int) < (n : Int) := by omega
          have hq6 : (q : Int) < 6 := by omega
          have hr6 : (r : Int) < 6 := by omega
          obtain ⟨hz0, hz1, hzM⟩ := hFH.out r q hrn hqn
          have c0 : wq.cell? ⟨w.heap.size, r * 6 + q, none⟩ = some (.int .u8 (F (r * 6 + q))) := by rw [(hA9.out.keep hbq).cell, u8s_get _ (by omega)]
          obtain ⟨z, hz⟩ : ∃ z, F (r * 6 + q) = z := ⟨_, rfl⟩
          rw [hz] at c0 hz0 hz1 hzM
          obtain ⟨y, hy⟩ : ∃ y, (p - z) % p = y := ⟨_, rfl⟩
          have hy0 : 0 ≤ y ∧ y < p := by rw [← hy]; exact ⟨Int.emod_nonneg _ (by omega), Int.emod_lt_of_pos _ (by omega)⟩
          have hyt : (p - z).tmod p = y := by rw [Int.tmod_eq_emod_of_nonneg (by omega)]; exact hy
          have hfin := Lib.hid (fun j => entry_cells hpH.out hz0 hz1 hy.symm Ms r q hzM j)
          clear hz hzM hy
          go_upto_region 10 with ((with_reducible refine wpl_guard ?_); first | (refine wpl_build_one rfl 25 64 5 _ rfl _ rfl (by decide) uPoly sByte zPoly ?_) | (refine wpl_alloc_arr rfl 25 rfl _ zPoly ?_) | (refine wpl_store_new rfl 25 _ _ rfl _ rfl rfl _ rfl sPoly (by simp only [u8s_size]) (u8s_oneCell _ _) ?_))
          have hO := Blk.new wq (u8s 64 fun j => if j = 0 then y else 0) 25
          have hn := below_new wq (.cells (u8s 64 fun j => if j = 0 then y else 0) 25)
          have hlt := fun b e => (hB.lt b e).2
          have hB1 := Lib.hid (hB.below hn)
          have hb1 := Lib.hid (below_step hbq hn)
          have hsz := hbq.size
          clear hn hB hbq c0 hyt
          generalize World.alloc wq _ = w1 at *
          obtain ⟨gO, hgO⟩ : ∃ q, wq.heap.size = q := ⟨_, rfl⟩
          have hgw : w0.heap.size ≤ gO := by omega
          rw [hgO] at hO hlt ⊢
          clear hgO
          obtain ⟨E, hEe⟩ : ∃ E, entM p Ms r q = E := ⟨_, rfl⟩
          have hEH := Lib.hid hEe
          by_cases hrq : r = q
          · have hrqb : ((r : Int) == (q : Int)) = true := by rw [hrq]; exact beq_self_eq_true _
            have hfin2 : u8s 64 (fun j => if j = 1 then (1 : Int) else if j = 0 then y else 0) = u8s 64 (cf E) := u8s_ext fun j _ => by
              have := hfin.out j
              rw [hEe] at this
              rw [← this]
              by_cases e : j = 1
              · subst e; simp [hrq]
              · simp [e]
            have c1 : w1.cell? ⟨gO, 1, none⟩ = some (.int .u8 0) := by rw [hO.cell, u8s_get _ (by omega)]; rfl
            have f1 := hO.free 1
            have hO2 := hO.set 1 (.int .u8 1)
            rw [u8s_set, hfin2] at hO2
            have hb2 := Lib.hid (hb1.out.setCell (show w0.heap.size ≤ (Addr.mk gO 1 none).block by exact hgw) (.int .u8 1))
            have hgr : w1.grownBy (w1.setCell ⟨gO, 1, none⟩ (.int .u8 1)) (some gO) := ⟨rfl, rfl, rfl, by simp, fun k _ hk => heap_setCell_other w1 ⟨gO, 1, none⟩ k (.int .u8 1) (fun e => hk (congrArg some e))⟩
            have hB2 := Lib.hid (hB1.out.kept hgr (.inr fun e => by have := hlt gO e; omega))
            clear hgr
            obtain ⟨wX, hwX⟩ : ∃ wX, w1.setCell ⟨gO, 1, none⟩ (.int .u8 1) = wX := ⟨_, rfl⟩
            rw [hwX] at hO2 hb2 hB2
            have hwXH := Lib.hid hwX
            clear hrq hfin hfin2 hO hB1 hb1 hsz hEe hwX hlt
            go_upto_region 12 with (fail)
            rw [hwXH.out]
            clear c1 f1 hwXH
            have hO := hO2
            clear hO2
            have hn := below_new wX (.cells (u8s 64 (cf E)) 25)
            have hB3 := Lib.hid (hB2.out.below hn)
            have hb3 := Lib.hid (below_step hb2.out hn)
            have nw := Lib.hid (arr_news wX 64 25 E)
            have hbs := Lib.hid (Nat.le_trans hb2.out.size hn.size)
            clear hn hB2 hb2
            go_wp2_with ((with_reducible refine wpl_guard ?_); first | (refine wpl_load_arr rfl 25 _ rfl _ rfl _ _ hO _ _ uPoly sPoly ?_) | (refine wpl_buildSlice_arr rfl 38 25 64 _ rfl uTlnT sPoly zPoly (by decide) (by decide) (cf E) rfl ?_) | (at_builtin; refine wpl_append_farB rfl _ _ 38 rfl (w0.heap.size) 25 _ 64 64 uTlnT iPolyB (by simp [Value.cells, u8s_size]) (by decide) (by decide) _ q _ rfl hB3.out ⟨wX.heap.size, 0, none⟩ rfl (u8s 64 (cf E)).toList (by rw [Array.length_toList, u8s_size]) (fun j u h => by rw [addr_add]; exact nw.out j u h) (arr_ones 64 E) (by omega) hbs.out ?_))
            intro v5 w5 hown5 hg5 _
            have hB5 := Lib.hid (BsL.snoc (by decide) hEH.out hown5)
            have hb5 := Lib.hid (bsl_low hb3.out hB3.out (Nat.le_refl _) hbs.out hg5)
            clear hown5 hg5 hB3 hb3 nw hbs hO
            go_wp2_with fail
            go_roundw
            case rel => exact ⟨q + 1, by omega, by go_num, hB5.out, hb5.out⟩
            case measure => simp [intOf] <;> omega
          · have hrqb : ((r : Int) == (q : Int)) = false := by rw [beq_eq_false_iff_ne]; omega
            have hfin2 : u8s 64 (fun j => if j = 0 then y else 0) = u8s 64 (cf E) := u8s_ext fun j _ => by
              have := hfin.out j
              rw [hEe] at this
              rw [← this]
              simp [hrq]
            rw [hfin2] at hO
            have hb2 := hb1
            have hB2 := hB1
            obtain ⟨wX, hwX⟩ : ∃ wX, w1 = wX := ⟨_, rfl⟩
            subst hwX
            rename World => wX
            clear hrq hfin hfin2 hb1 hB1 hsz hEe hlt
            go_upto_region 12 with (fail)
            have hn := below_new wX (.cells (u8s 64 (cf E)) 25)
            have hB3 := Lib.hid (hB2.out.below hn)
            have hb3 := Lib.hid (below_step hb2.out hn)
            have nw := Lib.hid (arr_news wX 64 25 E)
            have hbs := Lib.hid (Nat.le_trans hb2.out.size hn.size)
            clear hn hB2 hb2
            go_wp2_with ((with_reducible refine wpl_guard ?_); first | (refine wpl_load_arr rfl 25 _ rfl _ rfl _ _ hO _ _ uPoly sPoly ?_) | (refine wpl_buildSlice_arr rfl 38 25 64 _ rfl uTlnT sPoly zPoly (by decide) (by decide) (cf E) rfl ?_) | (at_builtin; refine wpl_append_farB rfl _ _ 38 rfl (w0.heap.size) 25 _ 64 64 uTlnT iPolyB (by simp [Value.cells, u8s_size]) (by decide) (by decide) _ q _ rfl hB3.out ⟨wX.heap.size, 0, none⟩ rfl (u8s 64 (cf E)).toList (by rw [Array.length_toList, u8s_size]) (fun j u h => by rw [addr_add]; exact nw.out j u h) (arr_ones 64 E) (by omega) hbs.out ?_))
            intro v5 w5 hown5 hg5 _
            have hB5 := Lib.hid (BsL.snoc (by decide) hEH.out hown5)
            have hb5 := Lib.hid (bsl_low hb3.out hB3.out (Nat.le_refl _) hbs.out hg5)
            clear hown5 hg5 hB3 hb3 nw hbs hO
            go_wp2_with fail
            go_roundw
            case rel => exact ⟨q + 1, by omega, by go_num, hB5.out, hb5.out⟩
            case measure => simp [intOf] <;> omega
        · have eqn : n = q := by omega
          have hB3 := hB
          rw [← eqn] at hB3
          obtain ⟨gr, cr, hre, _⟩ := hB3.form hn0
          subst hre
          clear hB eqn
          have hL1 := Lib.hid (hL9.out.below hbq)
          have hA1 := Lib.hid (hA9.out.keep hbq)
          have hb1 := Lib.hid (below_step hb9.out hbq)
          have hR9 := Lib.hid (fun i (hi : i < r) => (hRows.out i hi).below hbq)
          have hr9 := Lib.hid (hB3.lnC hn0)
          clear hB3 hbq
          have hn := below_new wq (.cells #[.slice (some ⟨gr, 0, none⟩) n cr] 38)
          have hL2 := Lib.hid (hL1.out.below hn)
          have hA2 := Lib.hid (hA1.out.keep hn)
          have hb2 := Lib.hid (below_step hb1.out hn)
          have hR2 := Lib.hid (fun i (hi : i < r) => (hR9.out i hi).below hn)
          have hr2 := Lib.hid (hr9.out.below hn)
          have hcc := Lib.hid ((Blk.new wq #[.slice (some ⟨gr, 0, none⟩) n cr] 38).cell 0)
          have hbs := Lib.hid (by have h1 := hA1.out.lt; rw [size_alloc]; omega : w.heap.size + 1 ≤ (wq.alloc (.cells #[.slice (some ⟨gr, 0, none⟩) n cr] 38)).heap.size)
          clear hn hL1 hA1 hb1 hR9 hr9
          go_wp2_with ((with_reducible refine wpl_guard ?_); first | (at_builtin; refine wpl_append_line rfl _ _ 71 rfl (w.heap.size + 1) 38 uTabT iTln u7 r R rfl hL2.out ⟨wq.heap.size, 0, none⟩ rfl (.slice (some ⟨gr, 0, none⟩) n cr) ⟨_, _, _, rfl⟩ hcc.out (by omega) hbs.out ?_))
          intro b5 c5 wA R5 hL5 hg5 hR51 hR52 _
          have hA5 := Lib.hid (by
            have h1 := hA2.out
            unfold Blk at h1 ⊢
            rw [hg5.block _ hA2.out.lt (fun e => by have := (hL2.out.lt e.symm).2; omega)]
            exact h1 : Blk wA w.heap.size (u8s 36 F) 30)
          have hb5 := Lib.hid (grown_low hb2.out hL2.out (Nat.le_succ _) (Nat.le_trans (Nat.le_succ _) hbs.out) hg5)
          have hR5 := Lib.hid (fun i (hi : i < r + 1) => (by
            by_cases e : i = r
            · subst e; rw [hR52]; exact hr2.out.grow hL2.out hg5
            · rw [hR51 i (by omega)]; exact (hR2.out i (by omega)).grow hL2.out hg5 : LnC wA (R5 i) n (entM p Ms i)))
          clear hg5 hR51 hR52 hL2 hA2 hb2 hR2 hr2 hcc hbs
          go_wp2_with fail
          go_roundw
          case rel => exact ⟨r + 1, R5, by omega, by go_num, hL5, hR5, hA5.out, hb5.out⟩
          case measure => simp [intOf] <;> omega
    · have ern : n = r := by omega
      have hT := Lib.hid (by rw [ern] at hn0 ⊢; exact hL.tab hn0 (by rw [← ern]; rw [← ern] at hRows; exact hRows.out) : TabS w0 u7 n (entM p Ms))
      clear hL hRows hA
      go_wp2_with fail
      go_ret
      exact ⟨_, rfl, hT.out, hb⟩
end Go.Proofs.Ytnkkkgaojhkniab

/- Walks: the part of a root, on both sides. -/
import Derived.Test.YtionaenmjndncaaE11
set_option linter.unusedVariables false
set_option linter.unusedSimpArgs false
namespace Go.Proofs.Ytionaenmjndncaa
open Go.RowKit

/-- A row is kept where another block is written. -/
theorem IsRow.set_other {w : World} {b o n cap : Nat} {xs : List Int} (h : IsRow w (.slice (some ⟨b, o, none⟩) n cap) xs) {a : Addr} (ha : a.block ≠ b) (v : Value) : IsRow (w.setCell a v) (.slice (some ⟨b, o, none⟩) n cap) xs := by
  obtain ⟨oa, cap2, h1, h2, h3, h4⟩ := h
  refine ⟨oa, cap2, h1, h2, h3, fun h0 => ?_⟩
  obtain ⟨b2, o2, h5, h6⟩ := h4 h0
  subst h5
  cases h1
  refine ⟨b, o, rfl, fun i hi => ?_⟩
  rw [World.cell?_setCell_other]
  · exact h6 i hi
  · exact fun e => ha (by rw [e])

theorem rootL_Po {p : Int} (hp : 2 ≤ p) {g : Nat} {S : Nat → Int} (h0 : S 0 = 1) (hS : ∀ i, 0 ≤ S i ∧ S i < p) : Po p (rootL g S) := by
  refine ⟨Or.inr ?_, fun i => ?_⟩
  · rw [rootL_length, Nat.add_sub_cancel, rootL_cf, if_pos (by omega), Nat.sub_self, h0]; omega
  · rw [rootL_cf]; split
    · exact hS _
    · omega

set_option maxRecDepth 20000 in
set_option maxHeartbeats 2000000 in
theorem l10Case_any (f : Nat → Int) (p : Int) (b c : Bool) (w : World) (hf : By f) (hb : Good p [f] ↔ b = true) (hc : decide (Sqc p (mkp 64 f)) = c) :
    Calls Try.prog 37 #[.int .i64 p, .agg (u8s 64 f)] w fun e w' => e = .returned (.int .i64 (modC b c)) ∧ Below w.heap.size w w' := by
  have hfH := Lib.hid hf
  have hbH := Lib.hid hb
  have hA := Blk.new w (u8s 64 f) 26
  have hb0 := below_new w (.cells (u8s 64 f) 26)
  obtain ⟨xs, hxs⟩ : ∃ xs, mkp 64 f = xs := ⟨_, rfl⟩
  have hdg := fun w => l01Deg_any f w hfH.out.on
  have hmo := fun w (g : Bool) hg => l01Monic_any f w hfH.out g hg
  have hro := fun w => rowOf_any f w hfH.out.on
  rw [hxs] at hc hdg hmo hro
  clear hf hb hxs
  have hdgH := Lib.hid hdg
  have hmoH := Lib.hid hmo
  clear hdg hmo hro
  have hcp : ∀ (P : Prop), (Sqc p xs → P) → (¬ P → c = false) := fun P h hP => by rw [← hc]; exact decide_eq_false fun hs => hP (h hs)
  have hcpH := Lib.hid hcp
  have hct := Lib.hid (fun (h : Sqc p xs) => show c = true by rw [← hc]; exact decide_eq_true h)
  clear hc hcp
  replace hb0 := hb0
  go_enter Try.func37, Try.ntmps37
  go_wp2_with ((with_reducible refine wpl_guard ?_); first | (refine wpl_load_arr rfl 26 _ rfl _ rfl _ _ hA _ _ uPoly sPoly ?_) | (refine wpl_buildSlice_polys rfl 75 26 1 _ rfl Try.underlying75 sPoly zPoly [f] rfl (by decide) (by decide) rfl ?_))
  refine (l01Code_lit [f] 1 64 rfl rfl (by omega) p _ _ _ (Blk.newAt (by simp) _ _) (by1 hfH.out) b hbH.out).mono ?_
  rintro e u0 ⟨rfl, hn⟩
  replace hA := (hA.alloc _).keep hn
  replace hb0 := below_step hb0 (below_step (below_new _ _) hn)
  clear hn
  cases b
  · go_wp2_with fail
    go_ret
    exact ⟨rfl, hb0⟩
  by_cases h2 : p = 2
  · have hcf := hcpH.out (p ≠ 2) (fun h => h.1) (fun h => h h2)
    subst hcf
    subst h2
    go_wp2_with fail
    go_ret
    exact ⟨rfl, hb0⟩
  have h2b : (p == 2) = false := by rw [beq_eq_false_iff_ne]; exact h2
  have h2H := Lib.hid h2
  clear h2
  by_cases h3 : cf xs (xs.length - 1) = 1
  · have hmt := Lib.hid (fun w => hmoH.out w true (decide_eq_true h3))
    have h3H := Lib.hid h3
    clear h3
    go_wp2_with ((with_reducible refine wpl_guard ?_); first | (refine wpl_load_arr rfl 26 _ rfl _ rfl _ _ hA _ _ uPoly sPoly ?_))
    refine (hmt.out _).mono ?_
    rintro e u1 ⟨rfl, hn⟩
    replace hA := hA.keep hn
    replace hb0 := below_step hb0 hn
    clear hn
    go_wp2_with ((with_reducible refine wpl_guard ?_); first | (refine wpl_load_arr rfl 26 _ rfl _ rfl _ _ hA _ _ uPoly sPoly ?_))
    refine (hdgH.out _).mono ?_
    rintro e u2 ⟨rfl, hn⟩
    replace hA := hA.keep hn
    replace hb0 := below_step hb0 hn
    clear hn
    have hl0 : 0 < xs.length := by
      refine Classical.byContradiction fun h => ?_
      have := h3H.out
      rw [cf_ge _ _ (by omega)] at this; omega
    obtain ⟨m, hm⟩ : ∃ m, xs.length = m + 1 := ⟨xs.length - 1, by omega⟩
    have hmH := Lib.hid hm
    have hmI : (xs.length : Int) - 1 = (m : Int) := by omega
    rw [hmI]
    clear hl0 hm hmI
    by_cases h4 : m % 2 = 0
    · have hce := hct.out ⟨h2H.out, h3H.out, by have := hmH.out; omega⟩
      subst hce
      have h4b : ((m : Int) % 2 == 0) = true := by rw [beq_iff_eq]; omega
      have h4d : ((m : Int) % 2 != 0) = false := by rw [bne, h4b]; rfl
      have h4c : ((m : Int).tmod 2 == 0) = true := by rw [Int.tmod_eq_emod_of_nonneg (by omega)]; exact h4b
      clear h4
      go_wp2_with fail
      go_ret
      exact ⟨rfl, hb0⟩
    · have hce := hcpH.out (xs.length % 2 = 1) (fun h => h.2.2) (by have := hmH.out; omega)
      subst hce
      have h4b : ((m : Int) % 2 == 0) = false := by rw [beq_eq_false_iff_ne]; omega
      have h4d : ((m : Int) % 2 != 0) = true := by rw [bne, h4b]; rfl
      have h4c : ((m : Int).tmod 2 == 0) = false := by rw [Int.tmod_eq_emod_of_nonneg (by omega)]; exact h4b
      clear h4
      go_wp2_with fail
      go_ret
      exact ⟨rfl, hb0⟩
  · have hmt := Lib.hid (fun w => hmoH.out w false (decide_eq_false h3))
    have hce := hcpH.out (cf xs (xs.length - 1) = 1) (fun h => h.2.1) h3
    subst hce
    clear h3
    go_wp2_with ((with_reducible refine wpl_guard ?_); first | (refine wpl_load_arr rfl 26 _ rfl _ rfl _ _ hA _ _ uPoly sPoly ?_))
    refine (hmt.out _).mono ?_
    rintro e u3 ⟨rfl, hn⟩
    replace hA := hA.keep hn
    replace hb0 := below_step hb0 hn
    clear hn
    go_wp2_with fail
    go_ret
    exact ⟨rfl, hb0⟩

set_option maxRecDepth 20000 in
set_option maxHeartbeats 2000000 in
theorem squareCode_any (f : Nat → Int) (p : Int) (b c : Bool) (w : World) (hf : By f) (hb : Good p [f] ↔ b = true) (hc : decide (Sqc p (mkp 64 f)) = c) :
    Calls Try.prog 39 #[.int .i64 p, .agg (u8s 64 f), .bool true] w fun e w' => e = .returned (.int .i64 (modC b c)) ∧ Below w.heap.size w w' := by
  have hfH := Lib.hid hf
  have hbH := Lib.hid hb
  have hA := Blk.new w (u8s 64 f) 26
  have hb0 := below_new w (.cells (u8s 64 f) 26)
  obtain ⟨xs, hxs⟩ : ∃ xs, mkp 64 f = xs := ⟨_, rfl⟩
  have hro := fun w => rowOf_any f w hfH.out.on
  rw [hxs] at hc hro
  clear hf hb hxs
  have hroH := Lib.hid hro
  clear hro
  have hcp : ∀ (P : Prop), (Sqc p xs → P) → (¬ P → c = false) := fun P h hP => by rw [← hc]; exact decide_eq_false fun hs => hP (h hs)
  have hcpH := Lib.hid hcp
  have hct := Lib.hid (fun (h : Sqc p xs) => show c = true by rw [← hc]; exact decide_eq_true h)
  clear hc hcp
  go_enter Try.func39, Try.ntmps39
  go_wp2_with ((with_reducible refine wpl_guard ?_); first | (refine wpl_load_arr rfl 26 _ rfl _ rfl _ _ hA _ _ uPoly sPoly ?_) | (refine wpl_buildSlice_polys rfl 75 26 1 _ rfl Try.underlying75 sPoly zPoly [f] rfl (by decide) (by decide) rfl ?_))
  refine (polysCode_lit [f] 1 64 rfl rfl (by omega) p _ _ _ (Blk.newAt (by simp) _ _) (by1 hfH.out) b hbH.out).mono ?_
  rintro e u0 ⟨rfl, hn⟩
  replace hA := (hA.alloc _).keep hn
  replace hb0 := below_step hb0 (below_step (below_new _ _) hn)
  clear hn
  cases b
  · go_wp2_with fail
    go_ret
    exact ⟨rfl, hb0⟩
  go_wp2_with ((with_reducible refine wpl_guard ?_); first | (refine wpl_load_arr rfl 26 _ rfl _ rfl _ _ hA _ _ uPoly sPoly ?_))
  refine (hroH.out _).mono ?_
  rintro e u1 ⟨v1, rfl, hr, hn⟩
  have kr := Lib.hid hr
  clear hr
  replace hA := hA.keep hn
  replace hb0 := below_step hb0 hn
  clear hn
  clear hA
  by_cases h2 : p = 2
  · have hcf := hcpH.out (p ≠ 2) (fun h => h.1) (fun h => h h2)
    subst hcf
    subst h2
    go_wp2_with fail
    go_ret
    exact ⟨rfl, hb0⟩
  have h2b : (p == 2) = false := by rw [beq_eq_false_iff_ne]; exact h2
  have h2H := Lib.hid h2
  clear h2
  by_cases h3 : cf xs (xs.length - 1) = 1
  · have h3b : (cf xs (xs.length - 1) == 1) = true := by rw [beq_iff_eq]; exact h3
    have h3H := Lib.hid h3
    clear h3
    go_wp2_with fail
    refine (lead_any _ _ _ kr.out).mono ?_
    rintro e u1 ⟨rfl, rfl⟩
    go_wp2_with fail
    refine (degree_any _ _ _ kr.out).mono ?_
    rintro e u2 ⟨rfl, rfl⟩
    have hl0 : 0 < xs.length := by
      refine Classical.byContradiction fun h => ?_
      have := h3H.out
      rw [cf_ge _ _ (by omega)] at this; omega
    obtain ⟨m, hm⟩ : ∃ m, xs.length = m + 1 := ⟨xs.length - 1, by omega⟩
    have hmH := Lib.hid hm
    have hmI : (xs.length : Int) - 1 = (m : Int) := by omega
    rw [hmI]
    clear hl0 hm hmI
    by_cases h4 : m % 2 = 0
    · have hce := hct.out ⟨h2H.out, h3H.out, by have := hmH.out; omega⟩
      subst hce
      have h4b : ((m : Int) % 2 == 0) = true := by rw [beq_iff_eq]; omega
      have h4d : ((m : Int) % 2 != 0) = false := by rw [bne, h4b]; rfl
      have h4c : ((m : Int).tmod 2 == 0) = true := by rw [Int.tmod_eq_emod_of_nonneg (by omega)]; exact h4b
      clear h4
      go_wp2_with fail
      go_ret
      exact ⟨rfl, hb0⟩
    · have hce := hcpH.out (xs.length % 2 = 1) (fun h => h.2.2) (by have := hmH.out; omega)
      subst hce
      have h4b : ((m : Int) % 2 == 0) = false := by rw [beq_eq_false_iff_ne]; omega
      have h4d : ((m : Int) % 2 != 0) = true := by rw [bne, h4b]; rfl
      have h4c : ((m : Int).tmod 2 == 0) = false := by rw [Int.tmod_eq_emod_of_nonneg (by omega)]; exact h4b
      clear h4
      go_wp2_with fail
      go_ret
      exact ⟨rfl, hb0⟩
  · have h3b : (cf xs (xs.length - 1) == 1) = false := by rw [beq_eq_false_iff_ne]; exact h3
    have h3d : (cf xs (xs.length - 1) != 1) = true := by rw [bne, h3b]; rfl
    have hce := hcpH.out (cf xs (xs.length - 1) = 1) (fun h => h.2.1) h3
    subst hce
    clear h3
    go_wp2_with fail
    refine (lead_any _ _ _ kr.out).mono ?_
    rintro e u3 ⟨rfl, rfl⟩
    go_wp2_with fail
    go_ret
    exact ⟨rfl, hb0⟩

set_option maxRecDepth 20000 in
set_option maxHeartbeats 2000000 in
theorem l10Part_any (xs : List Int) (p : Int) (g : Nat) (S : Nat → Int) (w : World) (hx : P64 p xs) (h2 : p ≠ 2) (hL : xs.length = 2 * g + 1)
    (hS : cf (rts p ((p + 1) / 2) (cf xs) (2 * g) g) = S) :
    Calls Try.prog 38 #[.int .i64 p, .agg (u8s 64 (cf xs))] w fun e w' => e = .returned (.agg (u8s 64 (cf (rootL g S)))) ∧ Below w.heap.size w w' := by
  have hp2 := hx.pr.pos
  have hg : g ≤ 31 := by have := hx.le; omega
  have hdg := fun w => l01Deg_list p xs w hx
  obtain ⟨t, ht⟩ : ∃ t : Nat, t = 2 * g := ⟨_, rfl⟩
  rw [hL, show ((2 * g + 1 : Nat) : Int) - 1 = (t : Int) by omega] at hdg
  have hro := Lib.hid (fun w => l10Root_any xs p g S w hx h2 hL hS)
  have hSb : ∀ i, 0 ≤ S i ∧ S i ≤ 6 := fun i => by rw [← hS]; have := rts_md (half := (p + 1) / 2) hp2.1 (cf xs) (2 * g) g i; omega
  have hSbH := Lib.hid hSb
  have hq1 : (t : Int) / 2 = (g : Int) := by omega
  have hq2 : (t : Int).tdiv 2 = (g : Int) := by rw [Int.tdiv_eq_ediv_of_nonneg (by omega)]; omega
  have ht62 : (t : Int) ≤ 62 := by omega
  have hg31 : (g : Int) ≤ 31 := by omega
  have hg1 := Lib.hid (show (g : Int) + 1 = ((g + 1 : Nat) : Int) by omega)
  have hdgH := Lib.hid hdg
  clear hdg hSb hS hL h2 hx hp2 ht
  obtain ⟨hb, hA, hZ⟩ := boxes2 w (u8s 64 (cf xs)) (u8s 64 fun _ => 0) 26 26
  go_enter Try.func38, Try.ntmps38
  go_wp2_with ((with_reducible refine wpl_guard ?_); first | (refine wpl_alloc_arr rfl 26 rfl _ zPoly ?_) | (refine wpl_load_arr rfl 26 _ rfl _ rfl _ _ hA _ _ uPoly sPoly ?_))
  refine (hdgH.out _).mono ?_
  rintro e u1 ⟨rfl, hn⟩
  replace hA := hA.keep hn
  replace hZ := hZ.keep hn
  replace hb := below_step hb hn
  clear hn
  go_wp2_with ((with_reducible refine wpl_guard ?_); first | (refine wpl_load_arr rfl 26 _ rfl _ rfl _ _ hA _ _ uPoly sPoly ?_))
  rw [hg1.out]
  refine (hro.out _).mono ?_
  rintro e u2 ⟨v, rfl, hr, hn⟩
  have kr := Lib.hid hr
  replace hA := hA.keep hn
  replace hZ := hZ.keep hn
  replace hb := below_step hb hn
  have hbl := Lib.hid (show ∀ b o n c, v = .slice (some ⟨b, o, none⟩) n c → b < u2.heap.size from fun b o n c e => by
    obtain ⟨oa, ca, h1, h2, h3, h4⟩ := kr.out
    obtain ⟨b', o', h5, h6⟩ := h4 (by simp)
    have h7 := block_lt_of_cell (h6 0 (by simp))
    rw [h5] at h1; rw [h1] at e; cases e; exact h7)
  have hQ1 : u2.heap.size ≠ w.heap.size + 1 := by have := hZ.lt; omega
  have hge : w.heap.size + 1 ≤ u2.heap.size := by have := hZ.lt; omega
  clear hn hr
  go_wp2_with ((with_reducible refine wpl_guard ?_); first | (refine wpl_build_zero rfl 26 64 5 rfl _ uPoly sByte zPoly ?_) | (refine wpl_alloc_arr rfl 26 rfl _ zPoly ?_) | (refine wpl_store_new rfl 26 _ _ rfl _ rfl rfl _ rfl sPoly (by simp only [u8s_size]) (u8s_oneCell _ _) ?_))
  have hN := Blk.new u2 (u8s 64 fun _ => 0) 26
  have hnb := below_new u2 (.cells (u8s 64 fun _ => 0) 26)
  replace kr := Lib.hid (kr.out.below hnb)
  replace hZ := hZ.keep hnb
  replace hb := below_step hb hnb
  clear hnb hA
  go_loopw [8] (fun ii wr => ∃ k : Nat, k ≤ g + 1 ∧ ii = .int .i64 k ∧ Hid (IsRow wr v ((List.range (g + 1)).map S)) ∧ Blk wr (w.heap.size + 1) (u8s 64 fun _ => 0) 26 ∧ Blk wr u2.heap.size (u8s 64 fun n => if n ≤ g ∧ g < n + k then S (g - n) else 0) 26 ∧ Below w.heap.size w wr) (fun ii _ => g + 2 - (intOf ii).toNat)
  case atStart => exact ⟨0, by omega, rfl, kr, hZ, hN.cast (u8s_ext fun n _ => by rw [if_neg (by omega)]), hb⟩
  case round =>
    clear kr hZ hN hb
    obtain ⟨k, hk, rfl, kr, hZ, hN, hb⟩ := hrel
    by_cases hlt : k < g + 1
    · obtain ⟨oa, ca, hv, hle, hcap, hc⟩ := kr.out
      have hlen : ((List.range (g + 1)).map S).length = g + 1 := by simp
      rw [hlen] at hv hle hc
      obtain ⟨b1, o1, rfl, hc1⟩ := hc (by omega)
      have c1 := hc1 k hlt
      rw [cf_map_range, if_pos hlt] at c1
      obtain ⟨x, hx⟩ : ∃ x : Nat, x = g - k := ⟨_, rfl⟩
      have hxI : (g : Int) - (k : Int) = (x : Int) := by omega
      have c2 : wr.cell? ⟨u2.heap.size, x, none⟩ = some (.int .u8 0) := by rw [hN.cell, u8s_get _ (by omega), if_neg (by omega)]
      have c3 := hN.free x
      have hs1 := (hSbH.out k).1
      have hs2 := (hSbH.out k).2
      have hx64 : (x : Int) < 64 := by omega
      have hkg : (k : Int) ≤ (g : Int) := by omega
      have hb1 := hbl.out _ _ _ _ hv
      have hvH := Lib.hid hv
      have hxH := Lib.hid hx
      have hlen2 : IsRow wr (.slice (some ⟨b1, o1, none⟩) (g + 1) ca) ((List.range (g + 1)).map S) := hv ▸ kr.out
      have kr2 := Lib.hid hlen2
      subst hv
      clear hc hc1 hcap hx hlen2 hlen hvH
      go_wp2_with fail
      go_roundw
      case rel =>
        refine ⟨k + 1, by omega, by go_num, Lib.hid (kr2.out.set_other (by simp; omega) _), hZ.set_other _ _ (by simp; omega), ?_, hb.setCell (by simp; omega) _⟩
        refine (hN.set x _).cast ?_
        rw [u8s_set]; apply u8s_ext; intro m hm
        have hx9 := hxH.out
        by_cases e : m = x
        · rw [if_pos e, if_pos (by omega), show g - m = k by omega]
        · rw [if_neg e]
          by_cases e2 : m ≤ g ∧ g < m + k
          · rw [if_pos e2, if_pos (by omega)]
          · rw [if_neg e2, if_neg (by omega)]
      case measure => simp [intOf] <;> omega
    · obtain rfl : k = g + 1 := by omega
      have hN2 := hN.cast (u8s_ext (g := cf (rootL g S)) fun n _ => by
        rw [rootL_cf]
        by_cases e : n < g + 1
        · rw [if_pos e, if_pos (by omega)]
        · rw [if_neg e, if_neg (by omega)])
      clear hN
      go_wp2_with ((with_reducible refine wpl_guard ?_); first | (refine wpl_load_arr rfl 26 _ rfl _ rfl _ _ hN2 _ _ uPoly sPoly ?_) | (refine wpl_store_arr rfl 26 _ _ rfl _ rfl _ rfl _ _ hZ sPoly (by simp only [u8s_size]) (u8s_oneCell _ _) ?_))
      exact bodyPost_ret (res_c rfl rfl (hZ.setRow_same (cs := u8s 64 (cf (rootL g S)))) uPoly sPoly) rfl ⟨rfl, below_setRow hb (by omega) _⟩

def rpA (b c : Bool) (M : List Int) : Nat → Int := if b then (if c then cf M else fun _ => 0) else fun _ => 0
/-- The root's part of a polynomial. -/
def rpM (p : Int) (xs : List Int) : List Int := rootL (xs.length / 2) (cf (rts p ((p + 1) / 2) (cf xs) (2 * (xs.length / 2)) (xs.length / 2)))

set_option maxRecDepth 20000 in
set_option maxHeartbeats 2000000 in
theorem specRootPart_any (f : Nat → Int) (p : Int) (b c : Bool) (M : List Int) (w : World) (hf : By f) (hb : Good p [f] ↔ b = true) (hc : decide (Sqc p (mkp 64 f)) = c) (hM : rpM p (mkp 64 f) = M) :
    Calls Try.prog 18 #[.int .i64 p, .agg (u8s 64 f)] w fun e w' => e = .returned (.tuple #[.agg (u8s 64 (rpA b c M)), .int .i64 (modC b c)]) ∧ Below w.heap.size w w' := by
  have hfH := Lib.hid hf
  have hbH := Lib.hid hb
  have hcH := Lib.hid hc
  have hMH := Lib.hid hM
  clear hf hb hc hM
  obtain ⟨hb, hA, hZ⟩ := boxes2 w (u8s 64 f) (u8s 64 fun _ => 0) 26 26
  go_enter Try.func18, Try.ntmps18
  go_wp2_with ((with_reducible refine wpl_guard ?_); first | (refine wpl_alloc_arr rfl 26 rfl _ zPoly ?_) | (refine wpl_load_arr rfl 26 _ rfl _ rfl _ _ hA _ _ uPoly sPoly ?_))
  refine (l10Case_any f p b c _ hfH.out hbH.out hcH.out).mono ?_
  rintro e u1 ⟨rfl, hn⟩
  replace hA := hA.keep hn
  replace hZ := hZ.keep hn
  replace hb := below_step hb hn
  clear hn
  cases b
  · go_wp2_with ((with_reducible refine wpl_guard ?_); first | (refine wpl_build_zero rfl 26 64 5 rfl _ uPoly sByte zPoly ?_) | (refine wpl_store_arr rfl 26 _ _ rfl _ rfl _ rfl _ _ hZ sPoly (by simp only [u8s_size]) (u8s_oneCell _ _) ?_))
    exact bodyPost_ret (res_ct (x := .int .i64 1) rfl rfl (hZ.setRow_same (cs := u8s 64 fun _ => 0)) uPoly sPoly rfl) rfl ⟨rfl, below_setRow hb (by omega) _⟩
  cases c
  · go_wp2_with ((with_reducible refine wpl_guard ?_); first | (refine wpl_build_zero rfl 26 64 5 rfl _ uPoly sByte zPoly ?_) | (refine wpl_store_arr rfl 26 _ _ rfl _ rfl _ rfl _ _ hZ sPoly (by simp only [u8s_size]) (u8s_oneCell _ _) ?_))
    exact bodyPost_ret (res_ct (x := .int .i64 2) rfl rfl (hZ.setRow_same (cs := u8s 64 fun _ => 0)) uPoly sPoly rfl) rfl ⟨rfl, below_setRow hb (by omega) _⟩
  have hG := hbH.out.2 (by first | rfl | trivial)
  have hx : P64 p (mkp 64 f) := hG.p64 (f := f) (by simp) hfH.out
  have hs := of_decide_eq_true hcH.out
  have hMM := hMH.out
  unfold rpM at hMM
  obtain ⟨g, hg⟩ : ∃ g, (mkp 64 f).length / 2 = g := ⟨_, rfl⟩
  have hL : (mkp 64 f).length = 2 * g + 1 := by have := hs.2.2; omega
  rw [hg] at hMM
  have hp2 := hx.pr.pos
  have hSm : ∀ i, 0 ≤ cf (rts p ((p + 1) / 2) (cf (mkp 64 f)) (2 * g) g) i ∧ cf (rts p ((p + 1) / 2) (cf (mkp 64 f)) (2 * g) g) i < p := fun i => rts_md hp2.1 _ _ g i
  have hMP : P64 p M := by
    rw [← hMM]
    exact ⟨hx.pr, rootL_Po hp2.1 (rts_zero _ _ _) hSm, by rw [rootL_length]; have := hx.le; omega⟩
  have hpt := fun w => l10Part_any (mkp 64 f) p g _ w hx hs.1 hL rfl
  rw [hMM] at hpt
  have ef := u8s_mkp f
  rw [← ef] at hpt
  have hptH := Lib.hid hpt
  clear hpt ef hMP hSm hp2 hL hg hMM hs hx hG hMH hcH hbH
  go_wp2_with ((with_reducible refine wpl_guard ?_); first | (refine wpl_load_arr rfl 26 _ rfl _ rfl _ _ hA _ _ uPoly sPoly ?_))
  refine (hptH.out _).mono ?_
  rintro e u2 ⟨rfl, hn⟩
  replace hA := hA.keep hn
  replace hZ := hZ.keep hn
  replace hb := below_step hb hn
  clear hn
  go_wp2_with ((with_reducible refine wpl_guard ?_); first | (refine wpl_store_arr rfl 26 _ _ rfl _ rfl _ rfl _ _ hZ sPoly (by simp only [u8s_size]) (u8s_oneCell _ _) ?_))
  exact bodyPost_ret (res_ct (x := .int .i64 0) rfl rfl (hZ.setRow_same (cs := u8s 64 (cf M))) uPoly sPoly rfl) rfl ⟨rfl, below_setRow hb (by omega) _⟩

set_option maxRecDepth 20000 in
set_option maxHeartbeats 2000000 in
theorem implRootPart_any (f : Nat → Int) (p : Int) (b c : Bool) (M : List Int) (w : World) (hf : By f) (hb : Good p [f] ↔ b = true) (hc : decide (Sqc p (mkp 64 f)) = c) (hM : rpM p (mkp 64 f) = M) :
    Calls Try.prog 19 #[.int .i64 p, .agg (u8s 64 f)] w fun e w' => e = .returned (.tuple #[.agg (u8s 64 (rpA b c M)), .int .i64 (modC b c)]) ∧ Below w.heap.size w w' := by
  have hfH := Lib.hid hf
  have hbH := Lib.hid hb
  have hcH := Lib.hid hc
  have hMH := Lib.hid hM
  clear hf hb hc hM
  obtain ⟨hb, hA, hZ⟩ := boxes2 w (u8s 64 f) (u8s 64 fun _ => 0) 26 26
  go_enter Try.func19, Try.ntmps19
  go_wp2_with ((with_reducible refine wpl_guard ?_); first | (refine wpl_alloc_arr rfl 26 rfl _ zPoly ?_) | (refine wpl_load_arr rfl 26 _ rfl _ rfl _ _ hA _ _ uPoly sPoly ?_))
  refine (squareCode_any f p b c _ hfH.out hbH.out hcH.out).mono ?_
  rintro e u1 ⟨rfl, hn⟩
  replace hA := hA.keep hn
  replace hZ := hZ.keep hn
  replace hb := below_step hb hn
  clear hn
  cases b
  · go_wp2_with ((with_reducible refine wpl_guard ?_); first | (refine wpl_build_zero rfl 26 64 5 rfl _ uPoly sByte zPoly ?_) | (refine wpl_store_arr rfl 26 _ _ rfl _ rfl _ rfl _ _ hZ sPoly (by simp only [u8s_size]) (u8s_oneCell _ _) ?_))
    exact bodyPost_ret (res_ct (x := .int .i64 1) rfl rfl (hZ.setRow_same (cs := u8s 64 fun _ => 0)) uPoly sPoly rfl) rfl ⟨rfl, below_setRow hb (by omega) _⟩
  cases c
  · go_wp2_with ((with_reducible refine wpl_guard ?_); first | (refine wpl_build_zero rfl 26 64 5 rfl _ uPoly sByte zPoly ?_) | (refine wpl_store_arr rfl 26 _ _ rfl _ rfl _ rfl _ _ hZ sPoly (by simp only [u8s_size]) (u8s_oneCell _ _) ?_))
    exact bodyPost_ret (res_ct (x := .int .i64 2) rfl rfl (hZ.setRow_same (cs := u8s 64 fun _ => 0)) uPoly sPoly rfl) rfl ⟨rfl, below_setRow hb (by omega) _⟩
  have hG := hbH.out.2 (by first | rfl | trivial)
  have hx : P64 p (mkp 64 f) := hG.p64 (f := f) (by simp) hfH.out
  have hs := of_decide_eq_true hcH.out
  have hMM := hMH.out
  unfold rpM at hMM
  obtain ⟨g, hg⟩ : ∃ g, (mkp 64 f).length / 2 = g := ⟨_, rfl⟩
  have hL : (mkp 64 f).length = 2 * g + 1 := by have := hs.2.2; omega
  rw [hg] at hMM
  have hp2 := hx.pr.pos
  have hSm : ∀ i, 0 ≤ cf (rts p ((p + 1) / 2) (cf (mkp 64 f)) (2 * g) g) i ∧ cf (rts p ((p + 1) / 2) (cf (mkp 64 f)) (2 * g) g) i < p := fun i => rts_md hp2.1 _ _ g i
  have hMP : P64 p M := by
    rw [← hMM]
    exact ⟨hx.pr, rootL_Po hp2.1 (rts_zero _ _ _) hSm, by rw [rootL_length]; have := hx.le; omega⟩
  have hro := Lib.hid (fun w => rowOf_any f w hfH.out.on)
  have hrt := fun va w (h : IsRow w va (mkp 64 f)) => root_any va (mkp 64 f) p g _ w hx.pr hs.1 h hx.po.md hL (by have := hx.le; omega) rfl
  rw [hMM] at hrt
  have htd := fun v w (h : IsRow w v M) => told_any v M w h (fun i => By_of_Po hx.pr hMP.po i)
  have hML : M.length ≤ 64 := hMP.le
  rw [show toldF M = cf M from if_pos hML, show toldC M = 0 from if_pos hML] at htd
  have hrtH := Lib.hid hrt
  have htdH := Lib.hid htd
  clear hrt htd hML hMP hSm hp2 hL hg hMM hs hx hG hMH hcH hbH
  go_wp2_with ((with_reducible refine wpl_guard ?_); first | (refine wpl_load_arr rfl 26 _ rfl _ rfl _ _ hA _ _ uPoly sPoly ?_))
  refine (hro.out _).mono ?_
  rintro e u5 ⟨v5, rfl, hr, hn⟩
  have k1 := Lib.hid hr
  clear hr
  replace hA := hA.keep hn
  replace hZ := hZ.keep hn
  replace hb := below_step hb hn
  clear hn
  go_wp2_with fail
  refine (hrtH.out _ _ k1.out).mono ?_
  rintro e u6 ⟨v6, rfl, hr, hn⟩
  have k2 := Lib.hid hr
  clear hr
  replace hA := hA.keep hn
  replace hZ := hZ.keep hn
  replace hb := below_step hb hn
  clear hn
  go_wp2_with fail
  refine (htdH.out _ _ k2.out).mono ?_
  rintro e u2 ⟨rfl, hn⟩
  replace hA := hA.keep hn
  replace hZ := hZ.keep hn
  replace hb := below_step hb hn
  clear hn
  go_wp2_with ((with_reducible refine wpl_guard ?_); first | (refine wpl_store_arr rfl 26 _ _ rfl _ rfl _ rfl _ _ hZ sPoly (by simp only [u8s_size]) (u8s_oneCell _ _) ?_))
  exact bodyPost_ret (res_ct (x := .int .i64 0) rfl rfl (hZ.setRow_same (cs := u8s 64 (cf M))) uPoly sPoly rfl) rfl ⟨rfl, below_setRow hb (by omega) _⟩

theorem RootPart_pair (p : Int) (f : Nat → Int) (_ : (Lit.int .i64 p).wf = true) (hf : By f) : ∃ (r0 : Nat → Int) (r1 : Int),
    (∀ w, Calls Try.prog 18 #[.int .i64 p, .agg (u8s 64 f)] w fun e w' => e = .returned (.tuple #[.agg (u8s 64 r0), .int .i64 r1]) ∧ Below w.heap.size w w') ∧
    (∀ w, Calls Try.prog 19 #[.int .i64 p, .agg (u8s 64 f)] w fun e w' => e = .returned (.tuple #[.agg (u8s 64 r0), .int .i64 r1]) ∧ Below w.heap.size w w') := by
  obtain ⟨b, hb⟩ := dec_true (Good p [f])
  exact ⟨_, _, fun w => specRootPart_any f p b _ _ w hf hb rfl rfl, fun w => implRootPart_any f p b _ _ w hf hb rfl rfl⟩
end Go.Proofs.Ytionaenmjndncaa

/- Walks: companions. -/
import Derived.Test.YtnkkkgaojhkniaaM4
import Derived.Test.YtnkkkgaojhkniaaE1
import Derived.BigRegion
import Derived.StillTailTactics
set_option linter.unusedVariables false
set_option linter.unusedSimpArgs false
namespace Go.Proofs.Ytnkkkgaojhkniaa
open Go.RowKit

/-- The companion of a monic polynomial of degree m + 1; up to row and column k. -/
def cmpK (p : Int) (f : Nat → Int) (m k : Nat) (j : Nat) : Int :=
  if j % 6 = j / 6 + 1 ∧ j / 6 < m ∧ j / 6 < k then 1 else if j / 6 = m ∧ j % 6 < k then (p - f (j % 6)) % p else 0
def cmpF (p : Int) (f : Nat → Int) (m : Nat) : Nat → Int := cmpK p f m (m + 1)
theorem cmpK_one {p : Int} {f : Nat → Int} {m k j : Nat} (hk : k < m) (hm : m < 6) : (if j = m * 6 + k then (p - f k) % p else if j = k * 6 + (k + 1) then 1 else cmpK p f m k j) = cmpK p f m (k + 1) j := by
  unfold cmpK
  by_cases e1 : j = m * 6 + k
  · rw [if_pos e1, if_neg (by omega), if_pos (by omega), show j % 6 = k by omega]
  · rw [if_neg e1]; repeat' split
    all_goals first | rfl | omega
theorem cmpK_two {p : Int} {f : Nat → Int} {m k j : Nat} (hk : k = m) (hm : m < 6) : (if j = m * 6 + k then (p - f k) % p else cmpK p f m k j) = cmpK p f m (k + 1) j := by
  unfold cmpK
  by_cases e1 : j = m * 6 + k
  · rw [if_pos e1, if_neg (by omega), if_pos (by omega), show j % 6 = k by omega]
  · rw [if_neg e1]; repeat' split
    all_goals first | rfl | omega
theorem cmpK_zero (p : Int) (f : Nat → Int) (m j : Nat) : cmpK p f m 0 j = 0 := by unfold cmpK; rw [if_neg (by omega), if_neg (by omega)]
/-- The other way: first the ones, up to k. -/
def onesK (k j : Nat) : Int := if j % 6 = j / 6 + 1 ∧ j / 6 < k then 1 else 0
def cmpR (p : Int) (f : Nat → Int) (m k : Nat) (j : Nat) : Int := if j / 6 = m ∧ j % 6 < k then (p - f (j % 6)) % p else onesK m j
theorem onesK_one {k j : Nat} (hk : k < 5) : (if j = k * 6 + (k + 1) then 1 else onesK k j) = onesK (k + 1) j := by
  unfold onesK; repeat' split
  all_goals first | rfl | omega
theorem cmpR_one {p : Int} {f : Nat → Int} {m k j : Nat} (hk : k < 6) : (if j = m * 6 + k then (p - f k) % p else cmpR p f m k j) = cmpR p f m (k + 1) j := by
  unfold cmpR
  by_cases e1 : j = m * 6 + k
  · rw [if_pos e1, if_pos (by omega), show j % 6 = k by omega]
  · rw [if_neg e1]; repeat' split
    all_goals first | rfl | omega
theorem cmpR_all (p : Int) (f : Nat → Int) (m j : Nat) : cmpR p f m (m + 1) j = cmpF p f m j := by
  unfold cmpR cmpF cmpK onesK; repeat' split
  all_goals first | rfl | omega
theorem cmp_small {p n : Int} (hp1 : 2 ≤ p) (hp2 : p ≤ 7) : 0 ≤ n % p ∧ n % p ≤ 6 := by
  have h1 := Int.emod_nonneg n (show p ≠ 0 by omega)
  have h2 := Int.emod_lt_of_pos n (show 0 < p by omega)
  omega
theorem comp_mod (p x : Int) : (-x) % p = (p - x) % p := by rw [show p - x = -x + p by omega, Int.add_emod_right]

set_option maxHeartbeats 400000 in
theorem implIsPoly6_any (f : Nat → Int) (p : Int) (w : World) (hf : ∀ i, i < 64 → 0 ≤ f i ∧ f i ≤ 255) (b : Bool) (hb : decide ((∀ i : Nat, i < 64 → f i < p) ∧ Pr p) = b) :
    Calls Try.prog 40 #[.int .i64 p, .agg (u8s 64 f)] w fun e w' => e = .returned (.bool b) ∧ Below w.heap.size w w' := by
  have hfH := Lib.hid hf; clear hf
  by_cases hp : Pr p
  · have h2 : decide (∀ i : Nat, i < 64 → f i < p) = b := by rw [← hb]; simp [hp]
    have hbH := Lib.hid h2; clear hb h2
    have hp1 : decide (Pr p) = true := by simpa using hp
    have hpH := Lib.hid hp1; clear hp1
    go_enter Try.func40, Try.ntmps40
    go_wp2_with (first | (go_at_call 31; refine (isPrime_any p _ true hpH.out).mono ?_; rintro e w' ⟨rfl, rfl⟩) | (refine wpl_load_arr rfl 33 _ rfl _ rfl _ _ (Blk.new w _ _) _ _ uPoly sPoly ?_) | (go_at_call 46; refine (isPoly_any f p _ hfH.out b hbH.out).mono ?_; rintro e w' ⟨rfl, hb1⟩))
    go_ret
    exact ⟨rfl, ((Below.refl _ _).alloc (Nat.le_refl _) _).trans (hb1.mono (by simp))⟩
  · have h2 : b = false := by rw [← hb]; simp [hp]
    subst h2
    have hp1 : decide (Pr p) = false := by simpa using hp
    have hpH := Lib.hid hp1; clear hp1 hb
    go_enter Try.func40, Try.ntmps40
    go_wp2_with (go_at_call 31; refine (isPrime_any p _ false hpH.out).mono ?_; rintro e w' ⟨rfl, rfl⟩)
    go_ret
    exact ⟨rfl, ((Below.refl _ _).alloc (Nat.le_refl _) _)⟩

set_option maxRecDepth 20000 in
set_option maxHeartbeats 2000000 in
theorem l05Companion_any (p : Int) (f : Nat → Int) (m : Nat) (w : World) (hp : Pr p) (hf : By f) (hfp : ∀ i, i < 64 → f i < p) (hL : (mkp 64 f).length = m + 1 + 1) (hm6 : m < 6) :
    Calls Try.prog 38 #[.int .i64 p, .agg (u8s 64 f)] w fun e w' => e = .returned (.agg (u8s 36 (cmpF p f m))) ∧ Below w.heap.size w w' := by
  have hdg := fun w => l01Deg_any f w hf.on
  rw [hL, show ((m + 1 + 1 : Nat) : Int) - 1 = ((m + 1 : Nat) : Int) by omega] at hdg
  have hdgH := Lib.hid hdg
  have hfH := Lib.hid hf
  have hfpH := Lib.hid hfp
  have hp1 := hp.pos.1
  have hp2 := hp.pos.2
  have hpz : (p == 0) = false := by rw [beq_eq_false_iff_ne]; omega
  clear hdg hf hfp hp hL
  obtain ⟨hb, hA, hZ⟩ := boxes2 w (u8s 64 f) (u8s 36 fun _ => 0) 33 27
  go_enter Try.func38, Try.ntmps38
  go_wp2_with ((with_reducible refine wpl_guard ?_); first | (refine wpl_alloc_arr rfl 27 rfl _ zSquare ?_) | (refine wpl_load_arr rfl 33 _ rfl _ rfl _ _ hA _ _ uPoly sPoly ?_))
  refine (hdgH.out _).mono ?_
  rintro e u1 ⟨rfl, hn⟩
  replace hA := hA.keep hn
  replace hZ := hZ.keep hn
  replace hb := below_step hb hn
  clear hn
  go_wp2_with ((with_reducible refine wpl_guard ?_); first | (refine wpl_alloc_arr rfl 27 rfl _ zSquare ?_) | (refine wpl_build_zeroN rfl 27 6 25 6 rfl _ uSquare sRow zSquare ?_) | (refine wpl_store_new rfl 27 _ _ rfl _ rfl (by first | rfl | simp) _ rfl sSquare (by simp only [u8s_size]) (u8s_oneCell _ _) ?_))
  have hgZ := hZ.lt
  have hgA := hA.lt
  have hN := Blk.new u1 (u8s 36 fun _ => 0) 27
  replace hA := hA.alloc (.cells (u8s 36 fun _ => 0) 27)
  replace hZ := hZ.alloc (.cells (u8s 36 fun _ => 0) 27)
  replace hb := below_step hb (below_new u1 (.cells (u8s 36 fun _ => 0) 27))
  obtain ⟨gN, hgN⟩ : ∃ g, u1.heap.size = g := ⟨_, rfl⟩
  simp only [hgN] at hN hgZ hgA ⊢
  clear hgN
  go_wp2_with fail
  go_loopw [7] (fun i wr => ∃ k : Nat, k ≤ m + 1 ∧ i = .int .i64 k ∧ Blk wr w.heap.size (u8s 64 f) 33 ∧ Blk wr (w.heap.size + 1) (u8s 36 fun _ => 0) 27 ∧ Blk wr gN (u8s 36 (cmpK p f m k)) 27 ∧ Below w.heap.size w wr) (fun i _ => m + 1 - (intOf i).toNat)
  case atStart => exact ⟨0, by omega, rfl, hA, hZ, hN.cast (u8s_ext fun j _ => (cmpK_zero p f m j).symm), hb⟩
  case round =>
    clear hA hZ hN hb
    obtain ⟨k, hk, rfl, hA, hZ, hN, hb⟩ := hrel
    by_cases hlt : k < m + 1
    · have c0 : wr.cell? ⟨w.heap.size, k, none⟩ = some (.int .u8 (f k)) := by rw [hA.cell, u8s_get _ (by omega)]
      have hm1 : ((m + 1 : Nat) : Int) - 1 = (m : Int) := by omega
      have hm6 : (m : Int) < 6 := by omega
      have hk6 : (k : Int) < 6 := by omega
      have hk64 : (k : Int) < 64 := by omega
      have hz0 := (hfH.out k).1
      have hz1 := hfpH.out k (by omega)
      obtain ⟨z, hz⟩ : ∃ z, z = (0 : Int) := ⟨_, rfl⟩
      have hzz0 : 0 ≤ z := by omega
      have hzz1 : z ≤ 0 := by omega
      have htm : (z + p - f k).tmod p = (p - f k) % p := by rw [hz, Int.zero_add, Int.tmod_eq_emod_of_nonneg (by omega)]
      have htr := cmp_small (n := p - f k) hp1 hp2
      have htr0 := htr.1
      have htr1 := htr.2
      have hm0 : cmpK p f m k (m * 6 + k) = z := by rw [hz]; unfold cmpK; rw [if_neg (by omega), if_neg (by omega)]
      have hzH := Lib.hid hz
      clear hz htr
      by_cases hkm : k < m
      · have d2 := hN.free (k * 6 + (k + 1))
        have hk1 : ((k : Int) + 1) < 6 := by omega
        have hk2 : (k : Int) + 1 = ((k + 1 : Nat) : Int) := by omega
        have hk2H := Lib.hid hk2
        have hkmI : (k : Int) < (m : Int) := by omega
        have d1 : wr.cell? ⟨gN, k * 6 + (k + 1), none⟩ = some (.int .u8 0) := by rw [hN.cell, u8s_get _ (by omega)]; unfold cmpK; rw [if_neg (by omega), if_neg (by omega)]
        clear hk2
        go_upto_region 7 with (fail)
        obtain ⟨wx, hwx⟩ : ∃ wx, wr.setCell ⟨gN, k * 6 + (k + 1), none⟩ (.int .u8 1) = wx := ⟨_, rfl⟩
        replace hA := hA.set_other ⟨gN, k * 6 + (k + 1), none⟩ (.int .u8 1) (by simp; omega)
        replace hZ := hZ.set_other ⟨gN, k * 6 + (k + 1), none⟩ (.int .u8 1) (by simp; omega)
        replace hN := hN.set (k * 6 + (k + 1)) (.int .u8 1)
        replace hb := hb.setCell (show w.heap.size ≤ (Addr.mk gN (k * 6 + (k + 1)) none).block by show w.heap.size ≤ gN; omega) (.int .u8 1)
        rw [hwx] at hA hZ hN hb ⊢
        rw [u8s_set] at hN
        clear d1 d2 c0 hwx
        have c0 : wx.cell? ⟨w.heap.size, k, none⟩ = some (.int .u8 (f k)) := by rw [hA.cell, u8s_get _ (by omega)]
        have c1 : wx.cell? ⟨gN, m * 6 + k, none⟩ = some (.int .u8 z) := by rw [hN.cell, u8s_get _ (by omega)]; rw [if_neg (by omega)]; exact congrArg _ (congrArg _ hm0)
        have c2 := hN.free (m * 6 + k)
        go_region
        go_wp2
        go_roundw
        case rel =>
          refine ⟨k + 1, by omega, by go_num, (hA.set_other _ _ (by simp; omega)).drew, (hZ.set_other _ _ (by simp; omega)).drew, ?_, (hb.setCell (by simp; omega) _).drew⟩
          refine ((hN.set (m * 6 + k) _).cast ?_).drew
          rw [u8s_set]; apply u8s_ext; intro j _
          rw [show -f k % p % 256 = (p - f k) % p by rw [comp_mod]; omega]
          exact cmpK_one hkm (by omega)
        case measure => simp [intOf] <;> omega
      · have hkmI : ¬ (k : Int) < (m : Int) := by omega
        clear c0
        go_upto_region 7 with (fail)
        have c0 : wr.cell? ⟨w.heap.size, k, none⟩ = some (.int .u8 (f k)) := by rw [hA.cell, u8s_get _ (by omega)]
        have c1 : wr.cell? ⟨gN, m * 6 + k, none⟩ = some (.int .u8 z) := by rw [hN.cell, u8s_get _ (by omega)]; exact congrArg _ (congrArg _ hm0)
        have c2 := hN.free (m * 6 + k)
        go_region
        go_wp2
        go_roundw
        case rel =>
          refine ⟨k + 1, by omega, by go_num, (hA.set_other _ _ (by simp; omega)).drew, (hZ.set_other _ _ (by simp; omega)).drew, ?_, (hb.setCell (by simp; omega) _).drew⟩
          refine ((hN.set (m * 6 + k) _).cast ?_).drew
          rw [u8s_set]; apply u8s_ext; intro j _
          rw [show -f k % p % 256 = (p - f k) % p by rw [comp_mod]; omega]
          exact cmpK_two (m := m) (k := k) (by omega) (by omega)
        case measure => simp [intOf] <;> omega
    · obtain rfl : k = m + 1 := by omega
      go_wp2_with ((with_reducible refine wpl_guard ?_); first | (refine wpl_load_arr rfl 27 _ rfl _ rfl _ _ hN _ _ uSquare sSquare ?_) | (refine wpl_store_arr rfl 27 _ _ rfl _ rfl _ rfl _ _ hZ sSquare (by simp only [u8s_size]) (u8s_oneCell _ _) ?_))
      exact bodyPost_ret (res_c rfl rfl (hZ.setRow_same (cs := u8s 36 (cmpF p f m))) uSquare sSquare) rfl ⟨rfl, below_setRow hb (by omega) _⟩

def cmpAll (q c t : Bool) (p : Int) (f : Nat → Int) : Nat → Int := if q && c && t then cmpF p f ((mkp 64 f).length - 1 - 1) else fun _ => 0
def cmpC (q c t : Bool) : Int := if q && c && t then 0 else 1

set_option maxRecDepth 20000 in
set_option maxHeartbeats 2000000 in
theorem specCompanionOf_any (f : Nat → Int) (p : Int) (q c t : Bool) (w : World) (hf : By f) (hq : decide ((∀ i : Nat, i < 64 → f i < p) ∧ Pr p) = q) (hc : decide (cf (mkp 64 f) ((mkp 64 f).length - 1) = 1) = c) (ht : decide (1 ≤ ((mkp 64 f).length : Int) - 1 ∧ ((mkp 64 f).length : Int) - 1 ≤ 6) = t) :
    Calls Try.prog 12 #[.int .i64 p, .agg (u8s 64 f)] w fun e w' => e = .returned (.tuple #[.agg (u8s 36 (cmpAll q c t p f)), .int .i64 (cmpC q c t)]) ∧ Below w.heap.size w w' := by
  have hfH := Lib.hid hf
  have hqH := Lib.hid hq
  have hcH := Lib.hid hc
  have htH := Lib.hid ht
  have hdg := Lib.hid (fun w => l01Deg_any f w hf.on)
  clear hf hq hc ht
  obtain ⟨hb, hA, hZ⟩ := boxes2 w (u8s 64 f) (u8s 36 fun _ => 0) 33 27
  go_enter Try.func12, Try.ntmps12
  go_wp2_with ((with_reducible refine wpl_guard ?_); first | (refine wpl_alloc_arr rfl 27 rfl _ zSquare ?_) | (refine wpl_load_arr rfl 33 _ rfl _ rfl _ _ hA _ _ uPoly sPoly ?_))
  refine (l01Is_any f p _ hfH.out.on q hqH.out).mono ?_
  rintro e u1 ⟨rfl, hn⟩
  replace hA := hA.keep hn
  replace hZ := hZ.keep hn
  replace hb := below_step hb hn
  clear hn
  cases q
  ·
    go_wp2_with ((with_reducible refine wpl_guard ?_); first | (refine wpl_build_zeroN rfl 27 6 25 6 rfl _ uSquare sRow zSquare ?_) | (refine wpl_store_arr rfl 27 _ _ rfl _ rfl _ rfl _ _ hZ sSquare (by simp only [u8s_size]) (u8s_oneCell _ _) ?_))
    exact bodyPost_ret (res_ct (x := .int .i64 1) rfl rfl (hZ.setRow_same (cs := u8s 36 fun _ => 0)) uSquare sSquare rfl) rfl ⟨rfl, below_setRow hb (by omega) _⟩
  go_wp2_with ((with_reducible refine wpl_guard ?_); first | (refine wpl_load_arr rfl 33 _ rfl _ rfl _ _ hA _ _ uPoly sPoly ?_))
  refine (l01Monic_any f _ hfH.out c hcH.out).mono ?_
  rintro e u2 ⟨rfl, hn⟩
  replace hA := hA.keep hn
  replace hZ := hZ.keep hn
  replace hb := below_step hb hn
  clear hn
  cases c
  ·
    go_wp2_with ((with_reducible refine wpl_guard ?_); first | (refine wpl_build_zeroN rfl 27 6 25 6 rfl _ uSquare sRow zSquare ?_) | (refine wpl_store_arr rfl 27 _ _ rfl _ rfl _ rfl _ _ hZ sSquare (by simp only [u8s_size]) (u8s_oneCell _ _) ?_))
    exact bodyPost_ret (res_ct (x := .int .i64 1) rfl rfl (hZ.setRow_same (cs := u8s 36 fun _ => 0)) uSquare sSquare rfl) rfl ⟨rfl, below_setRow hb (by omega) _⟩
  go_wp2_with ((with_reducible refine wpl_guard ?_); first | (refine wpl_load_arr rfl 33 _ rfl _ rfl _ _ hA _ _ uPoly sPoly ?_))
  refine (hdg.out _).mono ?_
  rintro e u3 ⟨rfl, hn⟩
  replace hA := hA.keep hn
  replace hZ := hZ.keep hn
  replace hb := below_step hb hn
  clear hn
  go_wp2_with fail
  refine (l01In_any _ _ _ _ t htH.out).mono ?_
  rintro e v9 ⟨rfl, rfl⟩
  cases t
  ·
    go_wp2_with ((with_reducible refine wpl_guard ?_); first | (refine wpl_build_zeroN rfl 27 6 25 6 rfl _ uSquare sRow zSquare ?_) | (refine wpl_store_arr rfl 27 _ _ rfl _ rfl _ rfl _ _ hZ sSquare (by simp only [u8s_size]) (u8s_oneCell _ _) ?_))
    exact bodyPost_ret (res_ct (x := .int .i64 1) rfl rfl (hZ.setRow_same (cs := u8s 36 fun _ => 0)) uSquare sSquare rfl) rfl ⟨rfl, below_setRow hb (by omega) _⟩
  obtain ⟨m, hm⟩ : ∃ m, (mkp 64 f).length = m + 1 + 1 := ⟨(mkp 64 f).length - 1 - 1, by have := of_decide_eq_true htH.out; omega⟩
  have hm6 : m < 6 := by have := of_decide_eq_true htH.out; omega
  have hq1 := of_decide_eq_true hqH.out
  have hcp := Lib.hid (fun w => l05Companion_any p f m w hq1.2 hfH.out hq1.1 hm hm6)
  have he : cmpAll true true true p f = cmpF p f m := by unfold cmpAll; rw [hm]; rfl
  have heH := Lib.hid he
  clear hm hm6 hq1 he hdg
  go_wp2_with ((with_reducible refine wpl_guard ?_); first | (refine wpl_load_arr rfl 33 _ rfl _ rfl _ _ hA _ _ uPoly sPoly ?_))
  refine (hcp.out _).mono ?_
  rintro e u4 ⟨rfl, hn⟩
  replace hA := hA.keep hn
  replace hZ := hZ.keep hn
  replace hb := below_step hb hn
  clear hn
  go_wp2_with ((with_reducible refine wpl_guard ?_); first | (refine wpl_store_arr rfl 27 _ _ rfl _ rfl _ rfl _ _ hZ sSquare (by simp only [u8s_size]) (u8s_oneCell _ _) ?_))
  exact bodyPost_ret (res_ct (x := .int .i64 0) rfl rfl (hZ.setRow_same (cs := u8s 36 (cmpF p f m))) uSquare sSquare rfl) rfl ⟨by rw [heH.out]; rfl, below_setRow hb (by omega) _⟩

set_option maxRecDepth 20000 in
set_option maxHeartbeats 2000000 in
theorem implCompanionOf_any (f : Nat → Int) (p : Int) (q c t : Bool) (w : World) (hf : By f) (hq : decide ((∀ i : Nat, i < 64 → f i < p) ∧ Pr p) = q) (hc : decide (cf (mkp 64 f) ((mkp 64 f).length - 1) = 1) = c) (ht : decide (1 ≤ ((mkp 64 f).length : Int) - 1 ∧ ((mkp 64 f).length : Int) - 1 ≤ 6) = t) :
    Calls Try.prog 14 #[.int .i64 p, .agg (u8s 64 f)] w fun e w' => e = .returned (.tuple #[.agg (u8s 36 (cmpAll q c t p f)), .int .i64 (cmpC q c t)]) ∧ Below w.heap.size w w' := by
  have hfH := Lib.hid hf
  have hqH := Lib.hid hq
  have hcH := Lib.hid hc
  have htH := Lib.hid ht
  clear hf hq hc ht
  obtain ⟨hb, hA, hZ⟩ := boxes2 w (u8s 64 f) (u8s 36 fun _ => 0) 33 27
  go_enter Try.func14, Try.ntmps14
  go_wp2_with ((with_reducible refine wpl_guard ?_); first | (refine wpl_alloc_arr rfl 27 rfl _ zSquare ?_) | (refine wpl_load_arr rfl 33 _ rfl _ rfl _ _ hA _ _ uPoly sPoly ?_))
  refine (rowOf_any f _ hfH.out.on).mono ?_
  rintro e u0 ⟨vr, rfl, hr, hn⟩
  replace hA := hA.keep hn
  replace hZ := hZ.keep hn
  replace hb := below_step hb hn
  have hrH := Lib.hid hr
  clear hn hr
  go_wp2_with ((with_reducible refine wpl_guard ?_); first | (refine wpl_load_arr rfl 33 _ rfl _ rfl _ _ hA _ _ uPoly sPoly ?_))
  refine (implIsPoly6_any f p _ hfH.out.on q hqH.out).mono ?_
  rintro e u2 ⟨rfl, hn⟩
  replace hA := hA.keep hn
  replace hZ := hZ.keep hn
  replace hb := below_step hb hn
  replace hrH := Lib.hid (hrH.out.below hn)
  clear hn
  cases q
  ·
    go_wp2_with ((with_reducible refine wpl_guard ?_); first | (refine wpl_build_zeroN rfl 27 6 25 6 rfl _ uSquare sRow zSquare ?_) | (refine wpl_store_arr rfl 27 _ _ rfl _ rfl _ rfl _ _ hZ sSquare (by simp only [u8s_size]) (u8s_oneCell _ _) ?_))
    exact bodyPost_ret (res_ct (x := .int .i64 1) rfl rfl (hZ.setRow_same (cs := u8s 36 fun _ => 0)) uSquare sSquare rfl) rfl ⟨rfl, below_setRow hb (by omega) _⟩
  go_wp2_with fail
  refine (lead_any _ _ _ hrH.out).mono ?_
  rintro e v1 ⟨rfl, rfl⟩
  obtain ⟨x, hx⟩ : ∃ x, cf (mkp 64 f) ((mkp 64 f).length - 1) = x := ⟨_, rfl⟩
  rw [hx] at hcH ⊢
  have hx1 : (x == 1) = c := by have := hcH.out; cases c <;> simp_all
  clear hx
  cases c
  · have hx2 : (x != 1) = true := by rw [bne, hx1]; rfl
    have hx3 : ¬ x = 1 := fun e => by rw [e] at hx1; cases hx1
    go_wp2_with ((with_reducible refine wpl_guard ?_); first | (refine wpl_build_zeroN rfl 27 6 25 6 rfl _ uSquare sRow zSquare ?_) | (refine wpl_store_arr rfl 27 _ _ rfl _ rfl _ rfl _ _ hZ sSquare (by simp only [u8s_size]) (u8s_oneCell _ _) ?_))
    exact bodyPost_ret (res_ct (x := .int .i64 1) rfl rfl (hZ.setRow_same (cs := u8s 36 fun _ => 0)) uSquare sSquare rfl) rfl ⟨rfl, below_setRow hb (by omega) _⟩
  obtain rfl : x = 1 := by simpa using hx1
  clear hx1
  go_wp2_with fail
  refine (degree_any _ _ _ hrH.out).mono ?_
  rintro e v2 ⟨rfl, rfl⟩
  go_wp2_with fail
  refine (within_any _ _ _ _ t htH.out).mono ?_
  rintro e v9 ⟨rfl, rfl⟩
  cases t
  ·
    go_wp2_with ((with_reducible refine wpl_guard ?_); first | (refine wpl_build_zeroN rfl 27 6 25 6 rfl _ uSquare sRow zSquare ?_) | (refine wpl_store_arr rfl 27 _ _ rfl _ rfl _ rfl _ _ hZ sSquare (by simp only [u8s_size]) (u8s_oneCell _ _) ?_))
    exact bodyPost_ret (res_ct (x := .int .i64 1) rfl rfl (hZ.setRow_same (cs := u8s 36 fun _ => 0)) uSquare sSquare rfl) rfl ⟨rfl, below_setRow hb (by omega) _⟩
  obtain ⟨m, hm⟩ : ∃ m, (mkp 64 f).length = m + 1 + 1 := ⟨(mkp 64 f).length - 1 - 1, by have := of_decide_eq_true htH.out; omega⟩
  have hm6 : m < 6 := by have := of_decide_eq_true htH.out; omega
  have hq1 := of_decide_eq_true hqH.out
  have he : cmpAll true true true p f = cmpF p f m := by unfold cmpAll; rw [hm]; rfl
  have heH := Lib.hid he
  have hdeg := Lib.hid (fun w (h : IsRow w vr (mkp 64 f)) => degree_any vr _ w h)
  rw [hm, show ((m + 1 + 1 : Nat) : Int) - 1 = ((m + 1 : Nat) : Int) by omega] at hdeg
  obtain ⟨oa, ca, rfl, hlea, hcap, hca⟩ := hrH.out
  rw [hm] at hca hlea hdeg hrH ⊢
  obtain ⟨b1, o1, rfl, hc1⟩ := hca (by omega)
  have hc1H := Lib.hid hc1
  have hfp := Lib.hid hq1.1
  have hp := hq1.2
  have hp1 := hp.pos.1
  have hp2 := hp.pos.2
  have hrd := Lib.hid (fun x w (h1 : -1000 ≤ x) (h2 : x ≤ 1000) => reduce_any p x w hp (by omega) (by omega))
  unfold maxLen at hcap
  clear hm hq1 he hca hp hc1
  go_wp2_with ((with_reducible refine wpl_guard ?_); first | (refine wpl_alloc_arr rfl 27 rfl _ zSquare ?_))
  have hN := Blk.new u2 (u8s 36 fun _ => 0) 27
  have hU := below_new u2 (.cells (u8s 36 fun _ => 0) 27)
  have hgZ := hZ.lt
  have hgA := hA.lt
  replace hA := hA.alloc (.cells (u8s 36 fun _ => 0) 27)
  replace hZ := hZ.alloc (.cells (u8s 36 fun _ => 0) 27)
  replace hb := below_step hb hU
  replace hrH := Lib.hid (hrH.out.below hU)
  refine (hdeg.out _ hrH.out).mono ?_
  rintro e v10 ⟨rfl, rfl⟩
  obtain ⟨gN, hgN⟩ : ∃ g, u2.heap.size = g := ⟨_, rfl⟩
  rw [hgN] at hN hgZ hgA hU
  simp only [hgN]
  have hlt0 : ∀ j, j < m + 1 + 1 → b1 < gN := fun j hj => by rw [← hgN]; exact block_lt_of_cell (hc1H.out j hj)
  have hb1 := hlt0 0 (by omega)
  clear hlt0 hdeg hrH
  have hm1 : ((m + 1 : Nat) : Int) - 1 = (m : Int) := by omega
  go_wp2_with fail
  go_loopw [33] (fun i wr => ∃ k : Nat, k ≤ m ∧ i = .int .i64 k ∧ Blk wr w.heap.size (u8s 64 f) 33 ∧ Blk wr (w.heap.size + 1) (u8s 36 fun _ => 0) 27 ∧ Blk wr gN (u8s 36 (onesK k)) 27 ∧ Below gN u2 wr ∧ Below w.heap.size w wr) (fun i _ => m - (intOf i).toNat)
  case atStart => exact ⟨0, by omega, rfl, hA, hZ, hN.cast (u8s_ext fun j _ => by unfold onesK; rw [if_neg (by omega)]), hU, hb⟩
  case round =>
    clear hA hZ hN hU hb
    obtain ⟨k, hk, rfl, hA, hZ, hN, hU, hb⟩ := hrel
    by_cases hlt : k < m
    · have d2 := hN.free (k * 6 + (k + 1))
      have hk6 : (k : Int) < 6 := by omega
      have hk1 : ((k : Int) + 1) < 6 := by omega
      have hltI : (k : Int) < (m : Int) := by omega
      have d1 : wr.cell? ⟨gN, k * 6 + (k + 1), none⟩ = some (.int .u8 0) := by rw [hN.cell, u8s_get _ (by omega)]; unfold onesK; rw [if_neg (by omega)]
      go_wp2_with fail
      go_roundw
      case rel =>
        refine ⟨k + 1, by omega, by go_num, hA.set_other _ _ (by simp; omega), hZ.set_other _ _ (by simp; omega), ?_, hU.setCell (by simp) _, hb.setCell (by simp; omega) _⟩
        refine (hN.set (k * 6 + (k + 1)) _).cast ?_
        rw [u8s_set]; apply u8s_ext; intro j _
        exact onesK_one (by omega)
      case measure => simp [intOf] <;> omega
    · obtain rfl : m = k := by omega
      clear hlt hk
      have hc0 := fun j (hj : j < m + 1 + 1) => hc1H.out j hj
      go_wp2_with fail
      go_loopw [43] (fun i wr => ∃ k : Nat, k ≤ m + 1 ∧ i = .int .i64 k ∧ Blk wr w.heap.size (u8s 64 f) 33 ∧ Blk wr (w.heap.size + 1) (u8s 36 fun _ => 0) 27 ∧ Blk wr gN (u8s 36 (cmpR p f m k)) 27 ∧ Below gN u2 wr ∧ Below w.heap.size w wr) (fun i _ => m + 1 - (intOf i).toNat)
      case atStart => exact ⟨0, by omega, rfl, hA, hZ, hN.cast (u8s_ext fun j _ => by unfold cmpR; rw [if_neg (by omega)]), hU, hb⟩
      case round =>
        clear hA hZ hN hU hb
        obtain ⟨k, hk, rfl, hA, hZ, hN, hU, hb⟩ := hrel
        by_cases hlt : k < m + 1
        · have c9 := hc0 k (by omega)
          have c0 : wr.cell? ⟨b1, o1 + k, none⟩ = some (.int .i64 (f k)) := by
            rw [hU.cell (by omega), c9, mkp_cf, if_pos (by omega)]
          have c2 := hN.free (m * 6 + k)
          have c1 : wr.cell? ⟨gN, m * 6 + k, none⟩ = some (.int .u8 (cmpR p f m k (m * 6 + k))) := by rw [hN.cell, u8s_get _ (by omega)]
          have hz0 := (hfH.out k).1
          have hz1 := hfp.out k (by omega)
          have hk6 : (k : Int) < 6 := by omega
          have hm6I : (m : Int) < 6 := by omega
          have hltI : (k : Int) < (m : Int) + 1 := by omega
          have hltN : (k : Int) < ((m + 1 + 1 : Nat) : Int) := by omega
          have htr := cmp_small (n := -f k) hp1 hp2
          have htr0 := htr.1
          have htr1 := htr.2
          have hwn : IntKind.i64.wrap (-f k) = -f k := by simp [IntKind.wrap, IntKind.signed, IntKind.bits]; omega
          have hwm : IntKind.i64.wrap (m : Int) = (m : Int) := by simp [IntKind.wrap, IntKind.signed, IntKind.bits]; omega
          have hltN2 : (k : Int) < (m : Int) + 1 + 1 := by omega
          have hcal := Lib.hid (fun w => hrd.out (-f k) w (by omega) (by omega))
          have hc0H := Lib.hid hc0
          clear c9 htr hc0
          go_upto_region 14 with (fail)
          go_still_tail 13, (by kernel_rfl)
          still_call ((hcal.out _).mono fun _ _ h => ⟨h.1, h.2.symm⟩)
          repeat still_step
          try refine wpStill_nil ?_
          change wpList _ _ _ _ _ wr.drew
          have e2 : wr.drew.frozen? ⟨gN, m * 6 + k, none⟩ = false := c2
          have e1 : wr.drew.cell? ⟨gN, m * 6 + k, none⟩ = some (.int .u8 (cmpR p f m k (m * 6 + k))) := c1
          replace hA := hA.drew
          replace hZ := hZ.drew
          replace hN := hN.drew
          replace hU : Below gN u2 wr.drew := ⟨hU.os, hU.tape, hU.output, hU.size, hU.block⟩
          replace hb : Below w.heap.size w wr.drew := ⟨hb.os, hb.tape, hb.output, hb.size, hb.block⟩
          clear c0 c1 c2
          generalize wr.drew = wd at *
          go_wp2
          go_roundw
          case rel =>
            refine ⟨k + 1, by omega, by go_num, hA.set_other _ _ (by simp; omega), hZ.set_other _ _ (by simp; omega), ?_, hU.setCell (by simp) _, hb.setCell (by simp; omega) _⟩
            refine (hN.set (m * 6 + k) _).cast ?_
            rw [u8s_set]; apply u8s_ext; intro j _
            rw [comp_mod]
            exact cmpR_one (m := m) (k := k) (by omega)
          case measure => simp [intOf] <;> omega
        · obtain rfl : k = m + 1 := by omega
          go_wp2_with ((with_reducible refine wpl_guard ?_); first | (refine wpl_load_arr rfl 27 _ rfl _ rfl _ _ hN _ _ uSquare sSquare ?_) | (refine wpl_store_arr rfl 27 _ _ rfl _ rfl _ rfl _ _ hZ sSquare (by simp only [u8s_size]) (u8s_oneCell _ _) ?_))
          exact bodyPost_ret (res_ct (x := .int .i64 0) rfl rfl (hZ.setRow_same (cs := u8s 36 (cmpR p f m (m + 1)))) uSquare sSquare rfl) rfl ⟨by rw [heH.out, u8s_ext fun j _ => cmpR_all p f m j]; rfl, below_setRow hb (by omega) _⟩

theorem CompanionOf_pair (p : Int) (f : Nat → Int) (_ : (Lit.int .i64 p).wf = true) (hf : By f) : ∃ (r0 : Nat → Int) (r1 : Int),
    (∀ w, Calls Try.prog 12 #[.int .i64 p, .agg (u8s 64 f)] w fun e w' => e = .returned (.tuple #[.agg (u8s 36 r0), .int .i64 r1]) ∧ Below w.heap.size w w') ∧
    (∀ w, Calls Try.prog 14 #[.int .i64 p, .agg (u8s 64 f)] w fun e w' => e = .returned (.tuple #[.agg (u8s 36 r0), .int .i64 r1]) ∧ Below w.heap.size w w') :=
  ⟨_, _, fun w => specCompanionOf_any f p _ _ _ w hf rfl rfl rfl, fun w => implCompanionOf_any f p _ _ _ w hf rfl rfl rfl⟩
end Go.Proofs.Ytnkkkgaojhkniaa

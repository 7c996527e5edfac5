/- Walks: powers of p; T replaced by powers of T. -/
import Derived.Test.YtionaenmjndncabE4
import Derived.Test.YtionaenmjndncabPureB
set_option linter.unusedVariables false
set_option linter.unusedSimpArgs false
namespace Go.Proofs.Ytionaenmjndncab
open Go.RowKit

theorem ipow_pos {p : Int} (hp : 2 ≤ p) (n : Nat) : 1 ≤ p ^ n := by
  induction n with
  | zero => simp
  | succ n ih => rw [Int.pow_succ]; have := Int.mul_le_mul ih (show (1 : Int) ≤ p by omega) (by omega) (by omega); omega
theorem ipow_mono {p : Int} (hp : 2 ≤ p) {n m : Nat} (h : n ≤ m) : p ^ n ≤ p ^ m := by
  induction m with
  | zero => obtain rfl : n = 0 := by omega
            exact Int.le_refl _
  | succ m ih =>
    by_cases e : n = m + 1
    · rw [e]; exact Int.le_refl _
    · have h1 := ih (by omega)
      have h2 := ipow_pos hp m
      rw [Int.pow_succ]
      have h3 := Int.mul_le_mul_of_nonneg_left (show (1 : Int) ≤ p by omega) (show 0 ≤ p ^ m by omega)
      omega
theorem ipow_le7 {p : Int} (hp : Pr p) (n : Nat) : p ^ n ≤ 7 ^ n := by
  have hp2 := hp.pos
  induction n with
  | zero => simp
  | succ n ih =>
    rw [Int.pow_succ, Int.pow_succ]
    exact Int.mul_le_mul ih hp2.2 (by omega) (Int.le_trans (by have := ipow_pos hp2.1 n; omega) ih)

set_option maxHeartbeats 1000000 in
theorem norm_any (p most : Int) (n : Nat) (w : World) (hp : 2 ≤ p) (hm : p ^ n ≤ most) (hm2 : most ≤ 2000000000000000000) (hn : n ≤ 1000) :
    Calls Try.prog 52 #[.int .i64 p, .int .i64 n, .int .i64 most] w fun e w' => e = .returned (.int .i64 (p ^ n)) ∧ w = w' := by
  have hall := Lib.hid (fun k (hk : k < n) => (⟨ipow_pos hp k, Int.le_trans (ipow_mono hp (Nat.le_of_lt hk)) hm, by rw [← Int.pow_succ]; exact Int.le_trans (ipow_mono hp (show k + 1 ≤ n by omega)) hm⟩ : 1 ≤ p ^ k ∧ p ^ k ≤ most ∧ p ^ k * p ≤ most))
  go_enter Try.func52, Try.ntmps52
  go_wp2_with fail
  go_loop [7, 9] (fun o i => ∃ (k : Nat) (y : Int), k ≤ n ∧ i = .int .i64 k ∧ o = .int .i64 y ∧ y = p ^ k) (fun _ i => n - (intOf i).toNat)
  case atStart => exact ⟨0, 1, by omega, rfl, rfl, by simp⟩
  case round =>
    obtain ⟨k, y, hk, rfl, rfl, hy⟩ := hrel
    have hyH := Lib.hid hy
    by_cases hlt : k < n
    · have h1 := hall.out k hlt
      rw [← hy] at h1
      have h2 := h1.1
      have h3 := h1.2.1
      have h4 := h1.2.2
      have h5 : ¬ most < y := by omega
      have h6 : 0 ≤ y * p := Int.mul_nonneg (by omega) (by omega)
      clear h1 hy
      go_wp2_with fail
      go_round
      case rel => exact ⟨k + 1, _, by omega, by go_num, rfl, by rw [Int.pow_succ, ← hyH.out]⟩
      case measure => simp [intOf] <;> omega
    · have hkk : k = n := by omega
      clear hy
      go_wp2_with fail
      go_ret
      exact ⟨ret_int (by rw [hyH.out, hkk]), rfl⟩

theorem IsRow_i64s {w : World} {g n : Nat} {F : Nat → Int} {xs : List Int} (hB : Blk w g (i64s n F) 2) (hl : xs.length = n) (hF : ∀ i, i < n → F i = cf xs i) (hn : n ≤ maxLen) : IsRow w (.slice (some ⟨g, 0, none⟩) n n) xs := by
  subst hl
  refine ⟨some ⟨g, 0, none⟩, xs.length, rfl, Nat.le_refl _, hn, fun _ => ⟨g, 0, rfl, fun i hi => ?_⟩⟩
  rw [hB.cell, Nat.zero_add, i64s_get _ hi, hF i hi]
/-- Behind k coefficients of a spread. -/
def sprF (xs : List Int) (q k : Nat) : Nat → Int := fun n => if n % q = 0 ∧ n / q < k then cf xs (n / q) else 0
theorem sprF_zero (xs : List Int) (q n : Nat) : sprF xs q 0 n = 0 := by unfold sprF; rw [if_neg]; intro h; exact absurd h.2 (Nat.not_lt_zero _)
theorem sprF_step (xs : List Int) {q : Nat} (hq : 0 < q) (k n : Nat) : sprF xs q (k + 1) n = if n = k * q then cf xs k else sprF xs q k n := by
  unfold sprF
  by_cases e : n = k * q
  · rw [if_pos e, e, if_pos ⟨Nat.mul_mod_left k q, by rw [Nat.mul_div_cancel k hq]; omega⟩, Nat.mul_div_cancel k hq]
  · rw [if_neg e]
    by_cases h : n % q = 0
    · have h1 : n / q ≠ k := fun h2 => e (by have := Nat.div_add_mod n q; rw [h2, h, Nat.mul_comm] at this; omega)
      by_cases h2 : n / q < k
      · rw [if_pos ⟨h, by omega⟩, if_pos ⟨h, h2⟩]
      · rw [if_neg (by omega), if_neg (by omega)]
    · rw [if_neg (by omega), if_neg (by omega)]
theorem sprF_at (xs : List Int) {q : Nat} (hq : 0 < q) (k : Nat) : sprF xs q k (k * q) = 0 := by
  unfold sprF; rw [if_neg]; intro h; rw [Nat.mul_div_cancel k hq] at h; omega
theorem sprF_all (xs : List Int) {q k : Nat} (hq : 0 < q) (hk : xs.length ≤ k) (n : Nat) : sprF xs q k n = cf (sprd xs q) n := by
  rw [sprd_cf xs hq]; unfold sprF
  by_cases h : n % q = 0
  · rw [if_pos h]
    by_cases h2 : n / q < k
    · rw [if_pos ⟨h, h2⟩]
    · rw [if_neg (by omega), cf_ge xs _ (by omega)]
  · rw [if_neg h, if_neg (by omega)]
theorem sprF_skip (xs : List Int) {q k : Nat} (hq : 0 < q) (hz : cf xs k = 0) (n : Nat) : sprF xs q (k + 1) n = sprF xs q k n := by
  rw [sprF_step xs hq]; split
  · rename_i h; rw [h, hz, sprF_at xs hq]
  · rfl
theorem npow_cast (p : Int) (P i : Nat) (hP : p = P) : ((P ^ i : Nat) : Int) = p ^ i := by rw [hP]; exact Int.natCast_pow P i
theorem q_bounds {p : Int} {P i q : Nat} (hp : Pr p) (hP : p = P) (hq : q = P ^ i) (hi : i ≤ 6) : 1 ≤ q ∧ q ≤ 117649 ∧ (q : Int) = p ^ i := by
  have hp2 := hp.pos
  have h1 : (q : Int) = p ^ i := by rw [hq]; exact npow_cast p P i hP
  have h2 := ipow_pos hp2.1 i
  have h3 := ipow_le7 hp i
  have h4 : (7 : Int) ^ i ≤ 7 ^ 6 := ipow_mono (by omega) hi
  have h5 : (7 : Int) ^ 6 = 117649 := by decide
  exact ⟨by omega, by omega, h1⟩

set_option maxHeartbeats 2000000 in
theorem spread_any (va : Value) (xs : List Int) (p : Int) (P i q : Nat) (w : World) (hp : Pr p) (hP : p = P) (hq : q = P ^ i) (hi : i ≤ 6) (ha : IsRow w va xs) (la : xs.length ≤ 64) :
    Calls Try.prog 54 #[.int .i64 p, va, .int .i64 i] w fun e w' => ∃ v, e = .returned v ∧ IsRow w' v (sprd xs q) ∧ Below w.heap.size w w' := by
  obtain ⟨q1, q2, q3⟩ := q_bounds hp hP hq hi
  have hno := fun w => norm_any p 1099511627776 i w hp.pos.1 (by omega) (by omega) (by omega)
  rw [← q3] at hno
  have hdg := Lib.hid (fun w h => degree_any va xs w h)
  have hnoH := Lib.hid hno
  have haH := Lib.hid ha
  obtain ⟨oa, ca, rfl, hlea, hcap, hca⟩ := ha
  have hcaH := Lib.hid hca
  clear hno hca hP hq hi q3 hp hcap
  by_cases h1 : xs.length = 0
  · have hn : sprd xs q = [] := by rw [List.length_eq_zero_iff.1 h1, sprd_nil]
    have hnH := Lib.hid hn
    have h1b : ((xs.length : Int) == 0) = true := by rw [h1]; rfl
    clear hn h1
    go_enter Try.func54, Try.ntmps54
    go_wp2_with fail
    go_ret
    exact ⟨_, rfl, by rw [hnH.out]; exact IsRow_nil w, Below.refl _ _⟩
  have h1b : ((xs.length : Int) == 0) = false := by rw [beq_eq_false_iff_ne]; omega
  obtain ⟨b1, off1, rfl, hc1⟩ := hcaH.out (by omega)
  have hc1H := Lib.hid hc1
  have hlt1 := block_lt_of_cell (hc1 0 (by omega))
  have hsl := sprd_length (xs := xs) (fun e => h1 (by rw [e]; rfl)) q
  have hmon : ∀ k, k < xs.length → k * q < (xs.length - 1) * q + 1 := fun k hk => by
    have := Nat.mul_le_mul_right q (show k ≤ xs.length - 1 by omega); omega
  have hMb : (xs.length - 1) * q ≤ 63 * 117649 := Nat.mul_le_mul (by omega) q2
  have hMI : ((xs.length : Int) - 1) * (q : Int) + 1 = (((xs.length - 1) * q + 1 : Nat) : Int) := by
    rw [show (xs.length : Int) - 1 = ((xs.length - 1 : Nat) : Int) by omega]; push_cast; rfl
  have hall := Lib.hid (fun n => sprF_all xs (k := xs.length) q1 (Nat.le_refl _) n)
  have hstep := Lib.hid (fun k n => sprF_step xs q1 k n)
  have hat := Lib.hid (fun k => sprF_at xs q1 k)
  generalize hM : (xs.length - 1) * q + 1 = M at *
  have hML : M ≤ 7411888 := by omega
  generalize hL : xs.length = L at *
  have hLH := Lib.hid hL
  have hmonH := Lib.hid hmon
  have hslH := Lib.hid hsl
  have hMH := Lib.hid hMI
  have hb1 : (L : Int) - 1 ≤ 63 := by omega
  have hb2 : 0 ≤ ((L : Int) - 1) * (q : Int) := by omega
  have hb3 : ((L : Int) - 1) * (q : Int) ≤ 7411887 := by omega
  clear hc1 hcaH hM hL hmon hsl hMb hMI h1
  go_enter Try.func54, Try.ntmps54
  go_wp2_with fail
  refine (hnoH.out _).mono ?_
  rintro e w1 ⟨rfl, rfl⟩
  go_wp2_with fail
  refine (hdg.out _ (hLH.out ▸ haH.out)).mono ?_
  rintro e w1 ⟨rfl, rfl⟩
  go_wp2_with (at_make; refine wpl_make_one rfl 48 2 _ _ rfl (.int .i64 0) Try.underlying48 iInt rfl .i64 .i64 _ _ M rfl rfl hMH.out hMH.out (by omega) ?_)
  go_loopw [25] (fun i wr => ∃ k : Nat, k ≤ L ∧ i = .int .i64 k ∧ Blk wr w.heap.size (i64s M (sprF xs q k)) 2 ∧ Below w.heap.size w wr) (fun i _ => L - (intOf i).toNat)
  case atStart => exact ⟨0, by omega, rfl, (Blk.new w _ _).cast (arr_ext fun j _ => by rw [sprF_zero]), below_new _ _⟩
  case round =>
    obtain ⟨k, hk, rfl, b0, hb⟩ := hrel
    by_cases hlt : k < L
    · have c1 : wr.cell? ⟨b1, off1 + k, none⟩ = some (.int .i64 (cf xs k)) := by rw [hb.cell hlt1]; exact hc1H.out k hlt
      have hkq := hmonH.out k hlt
      have c2 : wr.cell? ⟨w.heap.size, k * q, none⟩ = some (.int .i64 0) := by rw [b0.cell, i64s_get _ hkq, hat.out]
      have c3 := b0.free (k * q)
      obtain ⟨N, hN⟩ : ∃ N : Nat, N = k * q := ⟨_, rfl⟩
      have hNI : (k : Int) * (q : Int) = (N : Int) := by rw [hN]; push_cast; rfl
      rw [← hN] at c2 c3 hkq
      have hNH := Lib.hid hN
      clear hN
      go_wp2_with fail
      go_roundw
      case rel =>
        refine ⟨k + 1, by omega, by go_num, ?_, hb.setCell (by simp) _⟩
        refine (b0.set N _).cast ?_
        rw [i64s_set]; apply i64s_ext; intro n _
        rw [hstep.out, hNH.out]
      case measure => simp [intOf] <;> omega
    · obtain rfl : k = L := by omega
      have hrow := Lib.hid (IsRow_i64s (xs := sprd xs q) b0 hslH.out (fun i _ => hall.out i) (by unfold maxLen; omega))
      go_wp2_with fail
      go_ret
      exact ⟨_, rfl, hrow.out, hb⟩
end Go.Proofs.Ytionaenmjndncab

/- Walks: numbers modulo p and sums of rows. -/
import Derived.Test.YthkkicanockhgaaW8
import Derived.Test.YthkkicanockhgaaMake
import Derived.Test.YthkkicanockhgaaDiv
namespace Go.Proofs.Ythkkicanockhgaa
open Go.RowKit

theorem powm_range {p x : Int} (hp : 2 ≤ p) : ∀ n, 0 ≤ powm p x n ∧ powm p x n < p
  | 0 => by show (0 : Int) ≤ 1 ∧ (1 : Int) < p; omega
  | n + 1 => ⟨Int.emod_nonneg _ (by omega), Int.emod_lt_of_pos _ (by omega)⟩

set_option maxHeartbeats 400000 in
theorem inverse_any (p n : Int) (w : World) (hp : Pr p) (h0 : 0 ≤ n) (h1 : n < p) :
    Calls Try.prog 94 #[.int .i64 p, .int .i64 n] w fun e w' => e = .returned (.int .i64 (invp p n)) ∧ w = w' := by
  have hp1 := hp.pos.1
  have hp2 := hp.pos.2
  clear hp
  have hpz : (p == 0) = false := by rw [beq_eq_false_iff_ne]; omega
  go_enter Try.func94, Try.ntmps94
  go_wp2_with fail
  go_loop [5, 8] (fun t i => ∃ (k : Nat) (y : Int), (k : Int) ≤ p - 2 ∧ i = .int .i64 k ∧ t = .int .i64 y ∧ y = powm p n k) (fun _ i => (p - intOf i).toNat)
  case atStart => exact ⟨0, 1, by omega, rfl, rfl, rfl⟩
  case round =>
    obtain ⟨k, y, hk, rfl, rfl, hy⟩ := hrel
    have hyb := powm_range (x := n) hp1 k
    rw [← hy] at hyb
    have hyH := Lib.hid hy; clear hy
    by_cases hlt : (k : Int) < p - 2
    · have hm := mul_small hp2 hyb.1 hyb.2 h0 h1
      have hm1 := hm.1
      have hm2 := hm.2
      clear hm
      go_wp2_with fail
      go_round
      case rel => exact ⟨k + 1, _, by omega, by go_num, rfl, by show _ = powm p n k * n % p; rw [← hyH.out]⟩
      case measure => simp [intOf] <;> omega
    · have hkk : (k : Int) = p - 2 := by omega
      have hkH := Lib.hid (show (p - 2).toNat = k by omega)
      clear hkk
      go_wp2_with fail
      go_ret
      refine ⟨ret_int ?_, rfl⟩
      unfold invp; rw [hkH.out, ← hyH.out]

theorem cf_lt7 {p : Int} {xs : List Int} (hp : Pr p) (h : Md p xs) (i : Nat) : 0 ≤ cf xs i ∧ cf xs i ≤ 6 := by
  have := h i; have := hp.pos; omega

theorem mul_t {t y : Int} (ht0 : -1000 ≤ t) (ht1 : t ≤ 1000) (hy0 : 0 ≤ y) (hy1 : y ≤ 6) : -6000 ≤ t * y ∧ t * y ≤ 6000 := by
  constructor
  · have := Int.mul_le_mul_of_nonneg_right ht0 hy0; omega
  · have := Int.mul_le_mul_of_nonneg_right ht1 hy0; omega

set_option maxHeartbeats 1000000 in
theorem combine_any (va vb : Value) (xs ys : List Int) (p t : Int) (w : World) (hp : Pr p) (ha : IsRow w va xs) (hb : IsRow w vb ys) (hxa : Md p xs) (hxb : Md p ys)
    (ht0 : -1000 ≤ t) (ht1 : t ≤ 1000) (la : xs.length ≤ 100000000) (lb : ys.length ≤ 100000000) :
    Calls Try.prog 48 #[.int .i64 p, va, vb, .int .i64 t] w fun e w' => ∃ v, e = .returned v ∧ IsRow w' v (addp p xs ys t) ∧ Below w.heap.size w w' := by
  have hxaH := Lib.hid hxa
  have hxbH := Lib.hid hxb
  have haH := Lib.hid ha
  have hbH := Lib.hid hb
  have hpH := Lib.hid hp
  have hp1 := hp.pos.1
  have hp2 := hp.pos.2
  obtain ⟨oa, ca, rfl, hlea, _, _⟩ := ha
  obtain ⟨ob, cb, rfl, hleb, _, _⟩ := hb
  have hL := Nat.le_max_left xs.length ys.length
  have hR := Nat.le_max_right xs.length ys.length
  have hM : max xs.length ys.length ≤ 100000000 := Nat.max_le.2 ⟨la, lb⟩
  clear hxa hxb hp
  have hpz : (p == 0) = false := by rw [beq_eq_false_iff_ne]; omega
  have hsel : (xs.length < ys.length ∧ ys.length = max xs.length ys.length) ∨ (¬ xs.length < ys.length ∧ xs.length = max xs.length ys.length) := by omega
  generalize hMM : max xs.length ys.length = M at *
  have hMH := Lib.hid hMM
  clear hMM
  rcases hsel with ⟨hsl, hse⟩ | ⟨hsl, hse⟩
  all_goals
    have hseH := Lib.hid (congrArg (fun n : Nat => (n : Int)) hse)
    clear hse
    go_enter Try.func48, Try.ntmps48
    go_wp2_with (at_make; refine wpl_make_one rfl 49 2 _ _ rfl (.int .i64 0) Try.underlying49 iInt rfl .i64 .i64 _ _ M rfl rfl hseH.out hseH.out (by omega) ?_)
    go_loopw [19] (fun i wr => ∃ k : Nat, k ≤ M ∧ i = .int .i64 k ∧ Blk wr w.heap.size (i64s M (fun j => if j < k then (cf xs j + t * cf ys j) % p else 0)) 2 ∧ Below w.heap.size w wr) (fun i _ => M - (intOf i).toNat)
    case atStart => exact ⟨0, by omega, rfl, (Blk.new w _ _).cast (arr_ext fun j _ => by simp), below_new _ _⟩
    case round =>
      obtain ⟨k, hk, rfl, b0, hb⟩ := hrel
      by_cases hlt : k < M
      · have hx := cf_lt7 hpH.out hxaH.out k
        have hy := cf_lt7 hpH.out hxbH.out k
        have hx0 := hx.1
        have hx1 := hx.2
        have hm := mul_t ht0 ht1 hy.1 hy.2
        have hm0 := hm.1
        have hm1 := hm.2
        have ra := Lib.hid (haH.out.below hb)
        have rb := Lib.hid (hbH.out.below hb)
        have c0 : wr.cell? ⟨w.heap.size, k, none⟩ = some (.int .i64 0) := by rw [b0.cell, i64s_get _ hlt]; simp
        have c1 := b0.free k
        clear hx hy hm
        go_wp2_with fail
        refine (at_any _ xs k _ ra.out (by omega)).mono ?_
        rintro e w1 ⟨rfl, rfl⟩
        go_wp2_with fail
        refine (at_any _ ys k _ rb.out (by omega)).mono ?_
        rintro e w1 ⟨rfl, rfl⟩
        go_wp2_with fail
        refine (reduce_any p _ _ hpH.out (by omega) (by omega)).mono ?_
        rintro e w1 ⟨rfl, rfl⟩
        go_wp2_with fail
        go_roundw
        case rel =>
          refine ⟨k + 1, by omega, by go_num, ?_, hb.setCell (by simp) _⟩
          refine (b0.set k _).cast ?_
          rw [i64s_set]; apply i64s_ext; intro j _
          by_cases e1 : j = k
          · subst e1; simp
          · by_cases e2 : j < k
            · simp [e1, e2, show j < k + 1 by omega]
            · simp [e1, e2, show ¬ j < k + 1 by omega]
        case measure => simp [intOf] <;> omega
      · obtain rfl : k = M := by omega
        have hrow : IsRow wr (.slice (some ⟨w.heap.size, 0, none⟩) k k) ((List.range k).map fun i => (cf xs i + t * cf ys i) % p) := by
          have hlen : ((List.range k).map fun i => (cf xs i + t * cf ys i) % p).length = k := by rw [List.length_map, List.length_range]
          refine ⟨some ⟨w.heap.size, 0, none⟩, k, by rw [hlen], by omega, by unfold maxLen; omega, fun _ => ⟨_, 0, rfl, fun i hi => ?_⟩⟩
          rw [hlen] at hi
          rw [b0.cell, Nat.zero_add, i64s_get _ hi, cf_map_range, if_pos hi]
        have hrowH := Lib.hid hrow
        clear hrow
        go_wp2_with fail
        refine (trimmed_any _ _ _ hrowH.out).mono ?_
        rintro e w1 ⟨v', rfl, hr, rfl⟩
        have hr2 : IsRow wr v' (addp p xs ys t) := by unfold addp mkp; rw [hMH.out]; exact hr
        go_wp2_with fail
        go_ret
        exact ⟨_, rfl, hr2, hb⟩

set_option maxHeartbeats 400000 in
theorem scale_any (va : Value) (xs : List Int) (p t : Int) (w : World) (hp : Pr p) (ha : IsRow w va xs) (hxa : Md p xs)
    (ht0 : -1000 ≤ t) (ht1 : t ≤ 1000) (la : xs.length ≤ 100000000) :
    Calls Try.prog 99 #[.int .i64 p, va, .int .i64 t] w fun e w' => ∃ v, e = .returned v ∧ IsRow w' v (addp p [] xs t) ∧ Below w.heap.size w w' := by
  have hp2 := hp.pos
  have h1 := combine_any (.slice none 0 0) va [] xs p t w hp (IsRow_nil w) ha (Md_nil (by omega)) hxa ht0 ht1 (by simp) la
  have H1 := Lib.hid h1
  clear h1 ha hxa hp hp2
  go_enter Try.func99, Try.ntmps99
  go_wp2_with fail
  refine H1.out.mono ?_
  rintro e w1 ⟨v, rfl, hr, hb⟩
  go_wp2_with fail
  go_ret
  exact ⟨_, rfl, hr, hb⟩
end Go.Proofs.Ythkkicanockhgaa

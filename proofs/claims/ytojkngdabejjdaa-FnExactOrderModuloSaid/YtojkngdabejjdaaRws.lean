/- Several texts in one: W8, W9, A1, A2, A3, A4, A5, A6, A8. -/
import Derived.Test.YtojkngdabejjdaaCode
import Derived.StillTailTactics
import Derived.Test.YtojkngdabejjdaaBase
import Derived.Test.YtojkngdabejjdaaPure
import Derived.OwnWalk
set_option linter.unusedVariables false
set_option linter.unusedSimpArgs false
/- Walks: values of polynomials, derivatives. -/
namespace Go.Proofs.Ytojkngdabejjdaa
open Go.RowKit

/-- The value by Horner's way, tl the program reckons it. -/
def ev (p x : Int) : List Int → Int
  | [] => 0
  | a :: tl => (ev p x tl * x + a) % p
theorem ev_bounds (p x : Int) (hp : 0 < p) (l : List Int) : 0 ≤ ev p x l ∧ ev p x l < p := by
  cases l with
  | nil => exact ⟨Int.le_refl _, hp⟩
  | cons a tl => exact ⟨Int.emod_nonneg _ (by omega), Int.emod_lt_of_pos _ hp⟩
theorem ev_drop (p x : Int) (xs : List Int) (k : Nat) (h : k < xs.length) : ev p x (xs.drop k) = (ev p x (xs.drop (k + 1)) * x + cf xs k) % p := by
  rw [List.drop_eq_getElem_cons h, cf_lt xs k h]; rfl
theorem ev_trim (p x : Int) (xs : List Int) : ev p x (trim xs) = ev p x xs := by
  induction xs with
  | nil => rfl
  | cons a tl ih =>
    unfold trim
    split
    · rename_i h
      obtain ⟨h1, h2⟩ := h
      subst h2
      rw [h1] at ih
      show (0 : Int) = (ev p x tl * x + 0) % p
      rw [← ih]; simp [ev]
    · show (ev p x (trim tl) * x + a) % p = _
      rw [ih]; rfl

theorem mul_small {y x p : Int} (hp : p ≤ 7) (hy0 : 0 ≤ y) (hy1 : y < p) (hx0 : 0 ≤ x) (hx1 : x < p) : 0 ≤ y * x ∧ y * x ≤ 49 := by
  refine ⟨Int.mul_nonneg hy0 hx0, ?_⟩
  have h1 : y * x ≤ 7 * x := Int.mul_le_mul_of_nonneg_right (by omega) hx0
  omega

end Go.Proofs.Ytojkngdabejjdaa

/- Walks: ValueAt and DerivativeOf on both sides. -/
namespace Go.Proofs.Ytojkngdabejjdaa
open Go.RowKit

theorem good_pr {p : Int} {fs : List (Nat → Int)} (h : Good p fs) : Pr p := h.1
theorem dec_true (P : Prop) : ∃ b : Bool, P ↔ b = true := by
  by_cases h : P
  · exact ⟨true, by simp [h]⟩
  · exact ⟨false, by simp [h]⟩
theorem mkp_By {f : Nat → Int} (hf : By f) (n : Nat) : ∀ i, 0 ≤ cf (mkp n f) i ∧ cf (mkp n f) i ≤ 255 := fun i => by
  rw [mkp_cf]; split
  · exact hf i
  · omega


end Go.Proofs.Ytojkngdabejjdaa

/- Walks: numbers modulo p and sums of rows. -/
namespace Go.Proofs.Ytojkngdabejjdaa
open Go.RowKit

theorem powm_range {p x : Int} (hp : 2 ≤ p) : ∀ n, 0 ≤ powm p x n ∧ powm p x n < p
  | 0 => by show (0 : Int) ≤ 1 ∧ (1 : Int) < p; omega
  | n + 1 => ⟨Int.emod_nonneg _ (by omega), Int.emod_lt_of_pos _ (by omega)⟩

set_option maxHeartbeats 400000 in
theorem inverse_any (p n : Int) (w : World) (hp : Pr p) (h0 : 0 ≤ n) (h1 : n < p) :
    Calls Try.prog 45 #[.int .i64 p, .int .i64 n] w fun e w' => e = .returned (.int .i64 (invp p n)) ∧ w = w' := by
  have hp1 := hp.pos.1
  have hp2 := hp.pos.2
  clear hp
  have hpz : (p == 0) = false := by rw [beq_eq_false_iff_ne]; omega
  go_enter Try.func45, Try.ntmps45
  go_wp2_with fail
  go_loop [5, 8] (fun t i => ∃ (k : Nat) (y : Int), (k : Int) ≤ p - 2 ∧ i = .int .i64 k ∧ t = .int .i64 y ∧ y = powm p n k) (fun _ i => (p - intOf i).toNat)
  case atStart => exact ⟨0, 1, by omega, rfl, rfl, rfl⟩
  case round =>
    obtain ⟨k, y, hk, rfl, rfl, hy⟩ := hrel
    have hyb := powm_range (x := n) hp1 k
    rw [← hy] at hyb
    have hyH := Lib.hid hy; clear hy
    by_cases hlt : (k : Int) < p - 2
    · have hm := mul_small hp2 hyb.1 hyb.2 h0 h1
      have hm1 := hm.1
      have hm2 := hm.2
      clear hm
      go_wp2_with fail
      go_round
      case rel => exact ⟨k + 1, _, by omega, by go_num, rfl, by show _ = powm p n k * n % p; rw [← hyH.out]⟩
      case measure => simp [intOf] <;> omega
    · have hkk : (k : Int) = p - 2 := by omega
      have hkH := Lib.hid (show (p - 2).toNat = k by omega)
      clear hkk
      go_wp2_with fail
      go_ret
      refine ⟨ret_int ?_, rfl⟩
      unfold invp; rw [hkH.out, ← hyH.out]

theorem cf_lt7 {p : Int} {xs : List Int} (hp : Pr p) (h : Md p xs) (i : Nat) : 0 ≤ cf xs i ∧ cf xs i ≤ 6 := by
  have := h i; have := hp.pos; omega

theorem mul_t {t y : Int} (ht0 : -1000 ≤ t) (ht1 : t ≤ 1000) (hy0 : 0 ≤ y) (hy1 : y ≤ 6) : -6000 ≤ t * y ∧ t * y ≤ 6000 := by
  constructor
  · have := Int.mul_le_mul_of_nonneg_right ht0 hy0; omega
  · have := Int.mul_le_mul_of_nonneg_right ht1 hy0; omega

set_option maxHeartbeats 1000000 in
theorem combine_any (va vb : Value) (xs ys : List Int) (p t : Int) (w : World) (hp : Pr p) (ha : IsRow w va xs) (hb : IsRow w vb ys) (hxa : Md p xs) (hxb : Md p ys)
    (ht0 : -1000 ≤ t) (ht1 : t ≤ 1000) (la : xs.length ≤ 100000000) (lb : ys.length ≤ 100000000) :
    Calls Try.prog 44 #[.int .i64 p, va, vb, .int .i64 t] w fun e w' => ∃ v, e = .returned v ∧ IsRow w' v (addp p xs ys t) ∧ Below w.heap.size w w' := by
  have hxaH := Lib.hid hxa
  have hxbH := Lib.hid hxb
  have haH := Lib.hid ha
  have hbH := Lib.hid hb
  have hpH := Lib.hid hp
  have hp1 := hp.pos.1
  have hp2 := hp.pos.2
  obtain ⟨oa, ca, rfl, hlea, _, _⟩ := ha
  obtain ⟨ob, cb, rfl, hleb, _, _⟩ := hb
  have hL := Nat.le_max_left xs.length ys.length
  have hR := Nat.le_max_right xs.length ys.length
  have hM : max xs.length ys.length ≤ 100000000 := Nat.max_le.2 ⟨la, lb⟩
  clear hxa hxb hp
  have hpz : (p == 0) = false := by rw [beq_eq_false_iff_ne]; omega
  have hsel : (xs.length < ys.length ∧ ys.length = max xs.length ys.length) ∨ (¬ xs.length < ys.length ∧ xs.length = max xs.length ys.length) := by omega
  generalize hMM : max xs.length ys.length = M at *
  have hMH := Lib.hid hMM
  clear hMM
  rcases hsel with ⟨hsl, hse⟩ | ⟨hsl, hse⟩
  all_goals
    have hseH := Lib.hid (congrArg (fun n : Nat => (n : Int)) hse)
    clear hse
    go_enter Try.func44, Try.ntmps44
    go_wp2_with (at_make; refine wpl_make_one rfl 33 2 _ _ rfl (.int .i64 0) Try.underlying33 iInt rfl .i64 .i64 _ _ M rfl rfl hseH.out hseH.out (by omega) ?_)
    go_loopw [19] (fun i wr => ∃ k : Nat, k ≤ M ∧ i = .int .i64 k ∧ Blk wr w.heap.size (i64s M (fun j => if j < k then (cf xs j + t * cf ys j) % p else 0)) 2 ∧ Below w.heap.size w wr) (fun i _ => M - (intOf i).toNat)
    case atStart => exact ⟨0, by omega, rfl, (Blk.new w _ _).cast (arr_ext fun j _ => by simp), below_new _ _⟩
    case round =>
      obtain ⟨k, hk, rfl, b0, hb⟩ := hrel
      by_cases hlt : k < M
      · have hx := cf_lt7 hpH.out hxaH.out k
        have hy := cf_lt7 hpH.out hxbH.out k
        have hx0 := hx.1
        have hx1 := hx.2
        have hm := mul_t ht0 ht1 hy.1 hy.2
        have hm0 := hm.1
        have hm1 := hm.2
        have ra := Lib.hid (haH.out.below hb)
        have rb := Lib.hid (hbH.out.below hb)
        have c0 : wr.cell? ⟨w.heap.size, k, none⟩ = some (.int .i64 0) := by rw [b0.cell, i64s_get _ hlt]; simp
        have c1 := b0.free k
        clear hx hy hm
        go_wp2_with fail
        refine (at_any _ xs k _ ra.out (by omega)).mono ?_
        rintro e w1 ⟨rfl, rfl⟩
        go_wp2_with fail
        refine (at_any _ ys k _ rb.out (by omega)).mono ?_
        rintro e w1 ⟨rfl, rfl⟩
        go_wp2_with fail
        refine (reduce_any p _ _ hpH.out (by omega) (by omega)).mono ?_
        rintro e w1 ⟨rfl, rfl⟩
        go_wp2_with fail
        go_roundw
        case rel =>
          refine ⟨k + 1, by omega, by go_num, ?_, hb.setCell (by simp) _⟩
          refine (b0.set k _).cast ?_
          rw [i64s_set]; apply i64s_ext; intro j _
          by_cases e1 : j = k
          · subst e1; simp
          · by_cases e2 : j < k
            · simp [e1, e2, show j < k + 1 by omega]
            · simp [e1, e2, show ¬ j < k + 1 by omega]
        case measure => simp [intOf] <;> omega
      · obtain rfl : k = M := by omega
        have hrow : IsRow wr (.slice (some ⟨w.heap.size, 0, none⟩) k k) ((List.range k).map fun i => (cf xs i + t * cf ys i) % p) := by
          have hlen : ((List.range k).map fun i => (cf xs i + t * cf ys i) % p).length = k := by rw [List.length_map, List.length_range]
          refine ⟨some ⟨w.heap.size, 0, none⟩, k, by rw [hlen], by omega, by unfold maxLen; omega, fun _ => ⟨_, 0, rfl, fun i hi => ?_⟩⟩
          rw [hlen] at hi
          rw [b0.cell, Nat.zero_add, i64s_get _ hi, cf_map_range, if_pos hi]
        have hrowH := Lib.hid hrow
        clear hrow
        go_wp2_with fail
        refine (trimmed_any _ _ _ hrowH.out).mono ?_
        rintro e w1 ⟨v', rfl, hr, rfl⟩
        have hr2 : IsRow wr v' (addp p xs ys t) := by unfold addp mkp; rw [hMH.out]; exact hr
        go_wp2_with fail
        go_ret
        exact ⟨_, rfl, hr2, hb⟩

set_option maxHeartbeats 400000 in
theorem scale_any (va : Value) (xs : List Int) (p t : Int) (w : World) (hp : Pr p) (ha : IsRow w va xs) (hxa : Md p xs)
    (ht0 : -1000 ≤ t) (ht1 : t ≤ 1000) (la : xs.length ≤ 100000000) :
    Calls Try.prog 46 #[.int .i64 p, va, .int .i64 t] w fun e w' => ∃ v, e = .returned v ∧ IsRow w' v (addp p [] xs t) ∧ Below w.heap.size w w' := by
  have hp2 := hp.pos
  have h1 := combine_any (.slice none 0 0) va [] xs p t w hp (IsRow_nil w) ha (Md_nil (by omega)) hxa ht0 ht1 (by simp) la
  have H1 := Lib.hid h1
  clear h1 ha hxa hp hp2
  go_enter Try.func46, Try.ntmps46
  go_wp2_with fail
  refine H1.out.mono ?_
  rintro e w1 ⟨v, rfl, hr, hb⟩
  go_wp2_with fail
  go_ret
  exact ⟨_, rfl, hr, hb⟩
end Go.Proofs.Ytojkngdabejjdaa

/- Walks: products of rows. -/
namespace Go.Proofs.Ytojkngdabejjdaa
open Go.RowKit

/-- A product, without what surely is 0. -/
theorem mulp_mkp (p : Int) (xs ys : List Int) : mkp (xs.length + ys.length - 1) (fun n => pmul (cf xs) (cf ys) n % p) = mulp p xs ys := by
  have hF := (cf_Fin0 xs).mul (cf_Fin0 ys)
  refine Tr_ext (mkp_Tr _ _) (mkp_Tr _ _) fun i => ?_
  rw [mulp_cf, mkp_cf]
  split
  · rfl
  · rw [hF i (by omega)]; rfl

set_option maxHeartbeats 1000000 in
theorem times_any (va vb : Value) (xs ys : List Int) (p : Int) (w : World) (hp : Pr p) (ha : IsRow w va xs) (hb : IsRow w vb ys) (hxa : Md p xs) (hxb : Md p ys)
    (la : xs.length ≤ 100000) (lb : ys.length ≤ 100000) :
    Calls Try.prog 28 #[.int .i64 p, va, vb] w fun e w' => ∃ v, e = .returned v ∧ IsRow w' v (mulp p xs ys) ∧ Below w.heap.size w w' := by
  have hp1 := hp.pos.1
  have hp2 := hp.pos.2
  have hxaH := Lib.hid (fun i => cf_lt7 hp hxa i)
  have hxbH := Lib.hid (fun i => cf_lt7 hp hxb i)
  obtain ⟨oa, ca, rfl, hlea, _, hca⟩ := ha
  obtain ⟨ob, cb, rfl, hleb, _, hcb⟩ := hb
  have hcaH := Lib.hid hca
  have hcbH := Lib.hid hcb
  have hpz : (p == 0) = false := by rw [beq_eq_false_iff_ne]; omega
  clear hxa hxb hp hca hcb
  have hres := Lib.hid (mulp_mkp p xs ys)
  by_cases h1 : xs.length = 0
  · have hn : mulp p xs ys = [] := by rw [List.length_eq_zero_iff.1 h1, mulp_nil]
    have hnH := Lib.hid hn
    have h1b : ((xs.length : Int) == 0) = true := by rw [h1]; rfl
    clear hn h1
    go_enter Try.func28, Try.ntmps28
    go_wp2_with fail
    go_ret
    exact ⟨_, rfl, by rw [hnH.out]; exact IsRow_nil w, Below.refl _ _⟩
  by_cases h2 : ys.length = 0
  · have hn : mulp p xs ys = [] := by rw [List.length_eq_zero_iff.1 h2, mulp_nil_right]
    have hnH := Lib.hid hn
    have h1b : ((xs.length : Int) == 0) = false := by rw [beq_eq_false_iff_ne]; omega
    have h2b : ((ys.length : Int) == 0) = true := by rw [h2]; rfl
    clear hn h1 h2
    go_enter Try.func28, Try.ntmps28
    go_wp2_with fail
    go_ret
    exact ⟨_, rfl, by rw [hnH.out]; exact IsRow_nil w, Below.refl _ _⟩
  have h1b : ((xs.length : Int) == 0) = false := by rw [beq_eq_false_iff_ne]; omega
  have h2b : ((ys.length : Int) == 0) = false := by rw [beq_eq_false_iff_ne]; omega
  obtain ⟨b1, off1, rfl, hc1⟩ := hcaH.out (by omega)
  obtain ⟨b2, off2, rfl, hc2⟩ := hcbH.out (by omega)
  have hc1H := Lib.hid hc1
  have hc2H := Lib.hid hc2
  have hlt1 := block_lt_of_cell (hc1 0 (by omega))
  have hltb := block_lt_of_cell (hc2 0 (by omega))
  have hF1 := Lib.hid (cf_Fin0 xs)
  have hF2 := Lib.hid (cf_Fin0 ys)
  clear hc1 hc2 hcaH hcbH
  generalize hLx : xs.length = LX at *
  generalize hLy : ys.length = LY at *
  have hLxH := Lib.hid hLx
  have hLyH := Lib.hid hLy
  clear hLx hLy
  obtain ⟨N, hN⟩ : ∃ N : Nat, LX + LY = N + 1 := ⟨LX + LY - 1, by omega⟩
  have hNI : (LX : Int) + (LY : Int) - 1 = (N : Int) := by omega
  have hNH := Lib.hid hNI
  clear hNI
  go_enter Try.func28, Try.ntmps28
  go_wp2_with (at_make; refine wpl_make_one rfl 33 2 _ _ rfl (.int .i64 0) Try.underlying33 iInt rfl .i64 .i64 _ _ N rfl rfl hNH.out hNH.out (by omega) ?_)
  go_loopw [31] (fun i wr => ∃ k : Nat, k ≤ LX ∧ i = .int .i64 k ∧ Blk wr w.heap.size (i64s N (prt (cf xs) (cf ys) k 0)) 2 ∧ Below w.heap.size w wr) (fun i _ => LX - (intOf i).toNat)
  case atStart => exact ⟨0, by omega, rfl, (Blk.new w _ _).cast (arr_ext fun j _ => by rw [prt_start]), below_new _ _⟩
  case round =>
    obtain ⟨k, hk, rfl, b0, hb⟩ := hrel
    by_cases hlt : k < LX
    · have c1 : wr.cell? ⟨b1, off1 + k, none⟩ = some (.int .i64 (cf xs k)) := by rw [hb.cell hlt1]; exact hc1H.out k hlt
      go_wp2_with fail
      go_loopw [38] (fun i wr => ∃ j : Nat, j ≤ LY ∧ i = .int .i64 j ∧ Blk wr w.heap.size (i64s N (prt (cf xs) (cf ys) k j)) 2 ∧ Below w.heap.size w wr) (fun i _ => LY - (intOf i).toNat)
      case atStart => exact ⟨0, by omega, rfl, b0, hb⟩
      case round =>
        clear b0 hb c1
        obtain ⟨j, hj, rfl, b0, hb⟩ := hrel
        by_cases hlt2 : j < LY
        · have c1 : wr.cell? ⟨b2, off2 + j, none⟩ = some (.int .i64 (cf ys j)) := by rw [hb.cell hltb]; exact hc2H.out j hlt2
          have c2 : wr.cell? ⟨w.heap.size, k + j, none⟩ = some (.int .i64 (prt (cf xs) (cf ys) k j (k + j))) := by rw [b0.cell, i64s_get _ (by omega)]
          have c3 := b0.free (k + j)
          have hx := hxaH.out k
          have hy := hxbH.out j
          have ht := term_bound hx.1 hx.2 hy.1 hy.2
          have ht0 := ht.1
          have ht1 := ht.2
          have hq := prt_bound hxaH.out hxbH.out k j (k + j)
          have hq0 := hq.1
          have hq1 : prt (cf xs) (cf ys) k j (k + j) ≤ 3600036 := by have := hq.2; omega
          clear hx hy ht hq
          go_wp2_with fail
          go_roundw
          case rel =>
            refine ⟨j + 1, by omega, by go_num, ?_, hb.setCell (by simp) _⟩
            refine (b0.set (k + j) _).cast ?_
            rw [i64s_set]; apply i64s_ext; intro n _
            rw [prt_step]
            by_cases e1 : n = k + j
            · subst e1; simp
            · simp [e1]
          case measure => simp [intOf] <;> omega
        · obtain rfl : j = LY := by omega
          have b1 : Blk wr w.heap.size (i64s N (prt (cf xs) (cf ys) (k + 1) 0)) 2 := b0.cast (i64s_ext fun n _ => by rw [prt_row hF2.out])
          go_wp2_with fail
          go_roundw
          case rel => exact ⟨k + 1, by omega, by go_num, b1, hb⟩
          case measure => simp [intOf] <;> omega
    · obtain rfl : k = LX := by omega
      have b1 : Blk wr w.heap.size (i64s N (fun n => pmul (cf xs) (cf ys) n)) 2 := b0.cast (i64s_ext fun n _ => by rw [prt_all hF1.out])
      clear b0
      go_wp2_with fail
      go_loopw [58] (fun i wr => ∃ j : Nat, j ≤ N ∧ i = .int .i64 j ∧ Blk wr w.heap.size (i64s N (fun n => if n < j then pmul (cf xs) (cf ys) n % p else pmul (cf xs) (cf ys) n)) 2 ∧ Below w.heap.size w wr) (fun i _ => N - (intOf i).toNat)
      case atStart => exact ⟨0, by omega, rfl, b1.cast (i64s_ext fun n _ => by simp), hb⟩
      case round =>
        clear b1 hb
        obtain ⟨j, hj, rfl, b0, hb⟩ := hrel
        by_cases hlt2 : j < N
        · have c2 : wr.cell? ⟨w.heap.size, j, none⟩ = some (.int .i64 (pmul (cf xs) (cf ys) j)) := by rw [b0.cell, i64s_get _ hlt2]; simp
          have c3 := b0.free j
          have hq := prt_bound hxaH.out hxbH.out k 0 j
          rw [prt_all hF1.out] at hq
          have hq0 := hq.1
          have hq1 : pmul (cf xs) (cf ys) j ≤ 3600036 := by have := hq.2; omega
          clear hq
          go_wp2_with fail
          go_roundw
          case rel =>
            refine ⟨j + 1, by omega, by go_num, ?_, hb.setCell (by simp) _⟩
            refine (b0.set j _).cast ?_
            rw [i64s_set]; apply i64s_ext; intro n _
            by_cases e1 : n = j
            · subst e1; simp
            · by_cases e2 : n < j
              · simp [e1, e2, show n < j + 1 by omega]
              · simp [e1, e2, show ¬ n < j + 1 by omega]
          case measure => simp [intOf] <;> omega
        · obtain rfl : j = N := by omega
          have hrow : IsRow wr (.slice (some ⟨w.heap.size, 0, none⟩) j j) ((List.range j).map fun n => pmul (cf xs) (cf ys) n % p) := by
            have hlen : ((List.range j).map fun n => pmul (cf xs) (cf ys) n % p).length = j := by rw [List.length_map, List.length_range]
            refine ⟨some ⟨w.heap.size, 0, none⟩, j, by rw [hlen], by omega, by unfold maxLen; omega, fun _ => ⟨_, 0, rfl, fun i hi => ?_⟩⟩
            rw [hlen] at hi
            rw [b0.cell, Nat.zero_add, i64s_get _ hi, cf_map_range, if_pos hi, if_pos hi]
          have hrowH := Lib.hid hrow
          clear hrow
          go_wp2_with fail
          refine (trimmed_any _ _ _ hrowH.out).mono ?_
          rintro e w1 ⟨v', rfl, hr, rfl⟩
          have hr2 : IsRow wr v' (mulp p xs ys) := by
            rw [← hres.out, show k + LY - 1 = j by omega]; exact hr
          go_wp2_with fail
          go_ret
          exact ⟨_, rfl, hr2, hb⟩
end Go.Proofs.Ytojkngdabejjdaa

/- Walks: division of rows. -/
namespace Go.Proofs.Ytojkngdabejjdaa
open Go.RowKit

theorem sInt : (Try.prog.info? 2).map (·.size) = some 1 := by kernel_rfl

set_option maxHeartbeats 400000 in
theorem cloneRow_any (v : Value) (xs : List Int) (w : World) (h : IsRow w v xs) (hL : xs.length ≤ 1000) :
    Calls Try.prog 58 #[v] w fun e w' => ∃ v', e = .returned v' ∧ w'.ownsRow w.heap.size 2 1 v' xs.length ((List.range xs.length).map fun j => .int .i64 (cf xs j)) ∧ Below w.heap.size w w' := by
  obtain ⟨oa, cap, rfl, hle, hcap, hcell⟩ := h
  have hcellH := Lib.hid hcell
  have hcapH := Lib.hid hcap
  clear hcell hcap
  cases oa with
  | none =>
    have h0 : xs.length = 0 := by
      refine Classical.byContradiction fun hn => ?_
      obtain ⟨b, off, hh, _⟩ := hcellH.out (by omega)
      cases hh
    rw [h0] at hle ⊢
    go_enter Try.func58, Try.ntmps58
    go_wp2_with (refine wpl_eql_nil rfl 33 _ 2 _ _ rfl none 0 cap rfl rfl Try.underlying33 ?_)
    go_ret
    exact ⟨_, rfl, World.ownsRow_nil _ _ _ _, Below.refl _ _⟩
  | some ad =>
    have hc : ∀ j u, ((List.range xs.length).map fun j => Value.int .i64 (cf xs j))[j]? = some u → (w.alloc (.cells #[] 2)).cell? (ad.add j) = some u := by
      intro j u hj
      rw [List.getElem?_map] at hj
      by_cases hjl : j < xs.length
      · rw [List.getElem?_range hjl] at hj
        obtain ⟨b, off, hh, hc⟩ := hcellH.out (by omega)
        cases hh
        have := hc j hjl
        have hblt := block_lt_of_cell this
        have e : (⟨b, off, none⟩ : Addr).add j = ⟨b, off + j, none⟩ := by simp [Addr.add]
        rw [e, (below_new w _).cell hblt, this]
        simpa using hj
      · rw [List.getElem?_eq_none (by simpa using hjl)] at hj; cases hj
    have hcH := Lib.hid hc
    have hown := Lib.hid (owns_void w 2)
    clear hc hcellH
    go_enter Try.func58, Try.ntmps58
    go_wp2_with (first | (refine wpl_eql_nil rfl 33 _ 2 _ _ rfl (some ad) xs.length cap rfl rfl Try.underlying33 ?_) | (refine wpl_buildSlice_void rfl 33 2 rfl Try.underlying33 sInt ?_) |
      (at_builtin; refine wpl_append_more rfl _ _ 33 rfl w.heap.size 2 (.int .i64 0) 1 8 Try.underlying33 iInt rfl (by decide) (by decide) _ 0 [] rfl hown.out ad xs.length cap rfl _ (by simp) hcH.out (by intro u hu; rw [List.mem_map] at hu; obtain ⟨j, _, rfl⟩ := hu; rfl) (by omega) (by simp) ?_))
    intro v' w2 hown2 hb2
    have hownH := Lib.hid hown2
    have hb3 := (below_new w (.cells #[] 2)).trans hb2
    clear hown2 hb2
    go_wp2_with fail
    go_ret
    exact ⟨_, rfl, hownH.out, hb3⟩

/-- A block of the call's own that reads as a row, and may be written. -/
def WRow (w : World) (g : Nat) (n : Nat) (R : Nat → Int) : Prop := ∃ cur, Blk w g cur 2 ∧ ∀ i, i < n → cur[i]? = some (.int .i64 (R i))
theorem WRow.cell {w : World} {g n : Nat} {R : Nat → Int} (h : WRow w g n R) (i : Nat) (hi : i < n) : w.cell? ⟨g, i, none⟩ = some (.int .i64 (R i)) := by
  obtain ⟨cur, hb, hc⟩ := h
  rw [hb.cell, hc i hi]
theorem WRow.free {w : World} {g n : Nat} {R : Nat → Int} (h : WRow w g n R) (i : Nat) : w.frozen? ⟨g, i, none⟩ = false := by
  obtain ⟨cur, hb, _⟩ := h
  exact hb.free i
theorem WRow.lt {w : World} {g n : Nat} {R : Nat → Int} (h : WRow w g n R) : g < w.heap.size := by
  obtain ⟨cur, hb, _⟩ := h
  exact hb.lt
theorem WRow.below {B : Nat} {w w' : World} {g n : Nat} {R : Nat → Int} (h : WRow w g n R) (hb : Below B w w') (hg : g < B) : WRow w' g n R := by
  obtain ⟨cur, h1, h2⟩ := h
  exact ⟨cur, h1.below hb hg, h2⟩
theorem WRow.set {w : World} {g n : Nat} {R : Nat → Int} (h : WRow w g n R) (i : Nat) (x : Int) : WRow (w.setCell ⟨g, i, none⟩ (.int .i64 x)) g n (fun j => if j = i then x else R j) := by
  obtain ⟨cur, hb, hc⟩ := h
  refine ⟨_, hb.set i _, fun j hj => ?_⟩
  have hs : j < cur.size := by
    have := hc j hj
    exact (Array.getElem?_eq_some_iff.1 this).1
  rw [Array.getElem?_setIfInBounds]
  by_cases e : i = j
  · subst e; rw [if_pos rfl, if_pos hs]; simp
  · rw [if_neg e, hc j hj]; simp [Ne.symm e]
theorem WRow.set_other {w : World} {g n : Nat} {R : Nat → Int} (h : WRow w g n R) (a : Addr) (v : Value) (hne : g ≠ a.block) : WRow (w.setCell a v) g n R := by
  obtain ⟨cur, hb, hc⟩ := h
  exact ⟨cur, hb.set_other a v hne, hc⟩
theorem WRow.ext {w : World} {g n : Nat} {R R' : Nat → Int} (h : WRow w g n R) (he : ∀ i, i < n → R i = R' i) : WRow w g n R' := by
  obtain ⟨cur, hb, hc⟩ := h
  exact ⟨cur, hb, fun i hi => by rw [hc i hi, he i hi]⟩
theorem WRow.row {w : World} {g n cap : Nat} {R : Nat → Int} (h : WRow w g n R) (hn : n ≤ cap) (hc : cap ≤ maxLen) : IsRow w (.slice (some ⟨g, 0, none⟩) n cap) ((List.range n).map R) := by
  have hlen : ((List.range n).map R).length = n := by rw [List.length_map, List.length_range]
  refine ⟨some ⟨g, 0, none⟩, cap, by rw [hlen], by omega, hc, fun _ => ⟨_, 0, rfl, fun i hi => ?_⟩⟩
  rw [hlen] at hi
  rw [Nat.zero_add, h.cell i hi, cf_map_range, if_pos hi]
/-- What the call has cloned. -/
theorem WRow_owned {w : World} {base n : Nat} {v : Value} {f : Nat → Int} (h : w.ownsRow base 2 1 v n ((List.range n).map fun j => .int .i64 (f j))) (hn : 0 < n) :
    ∃ g cap, v = .slice (some ⟨g, 0, none⟩) n cap ∧ base ≤ g ∧ n ≤ cap ∧ cap ≤ maxLen ∧ WRow w g n f := by
  rcases h with ⟨_, ⟨rfl, rfl⟩ | ⟨g, cap, cur, rfl, hg, hb, h1, h2, h3, h4⟩⟩
  · omega
  · refine ⟨g, cap, rfl, hg, h1, h2, cur, hb, fun i hi => ?_⟩
    have h5 : (cur.toList.take (n * 1))[i]? = some (.int .i64 (f i)) := by
      rw [h4, List.getElem?_map, List.getElem?_range hi]; rfl
    rw [List.getElem?_take, if_pos (by omega)] at h5
    simpa using h5
end Go.Proofs.Ytojkngdabejjdaa

/- Walks: division of rows. -/
namespace Go.Proofs.Ytojkngdabejjdaa
open Go.RowKit

theorem map_cf_self (xs : List Int) : (List.range xs.length).map (cf xs) = xs := by
  apply List.ext_getElem (by simp)
  intro i h1 h2
  rw [List.getElem_map, List.getElem_range, cf_lt xs i h2]
theorem mkp_self {xs : List Int} (h : Tr xs) : mkp xs.length (cf xs) = xs := by
  unfold mkp; rw [map_cf_self, trim_of_Tr h]

/-- The lists of a division. -/
theorem divp_fst (p : Int) (xs ys : List Int) : mkp (xs.length - (ys.length - 1)) (dquot p (invp p (cf ys (ys.length - 1))) ys (xs.length - (ys.length - 1)) (cf xs)) = (divp p xs ys).1 := rfl
theorem divp_snd (p : Int) (xs ys : List Int) : mkp xs.length (drest p (invp p (cf ys (ys.length - 1))) ys (xs.length - (ys.length - 1)) (cf xs)) = (divp p xs ys).2 := rfl
theorem divp_short {p : Int} {xs ys : List Int} (hx : Tr xs) (h : xs.length < ys.length) : (divp p xs ys).1 = [] ∧ (divp p xs ys).2 = xs := by
  rw [← divp_fst, ← divp_snd, show xs.length - (ys.length - 1) = 0 by omega]
  exact ⟨rfl, mkp_self hx⟩

set_option maxHeartbeats 2000000 in
theorem divide_any (va vb : Value) (xs ys : List Int) (p : Int) (w : World) (hp : Pr p) (ha : IsRow w va xs) (hb : IsRow w vb ys) (hxa : Po p xs) (hxb : Po p ys) (hne : ys ≠ [])
    (la : xs.length ≤ 1000) (lb : ys.length ≤ 1000) :
    Calls Try.prog 43 #[.int .i64 p, va, vb] w fun e w' => ∃ v1 v2, e = .returned (.tuple #[v1, v2]) ∧ IsRow w' v1 (divp p xs ys).1 ∧ IsRow w' v2 (divp p xs ys).2 ∧ Below w.heap.size w w' := by
  have hp1 := hp.pos.1
  have hp2 := hp.pos.2
  have hpz : (p == 0) = false := by rw [beq_eq_false_iff_ne]; omega
  have hpH := Lib.hid hp
  have hLY : 0 < ys.length := List.length_pos_iff.2 hne
  have hl := Lib.hid (hxb.lead hne)
  have hl2 := Lib.hid ((hxb.md (ys.length - 1)).2)
  have hyH := Lib.hid (fun i => cf_lt7 hp hxb.md i)
  have hIn := Lib.hid (show In p (cf xs) from hxa.md)
  have haH := Lib.hid ha
  have hbH := Lib.hid hb
  have hcl := Lib.hid (cloneRow_any va xs w ha la)
  obtain ⟨oa, ca, rfl, hlea, _, _⟩ := ha
  obtain ⟨ob, cb, rfl, hleb, _, hcb⟩ := hb
  obtain ⟨b2, off2, rfl, hc2⟩ := hcb hLY
  have hc2H := Lib.hid hc2
  have hltb := block_lt_of_cell (hc2 0 (by omega))
  clear hcb hc2
  by_cases hsh : xs.length < ys.length
  · have hd := Lib.hid (divp_short (p := p) hxa.tr hsh)
    clear hp hxa hxb hne
    go_enter Try.func43, Try.ntmps43
    go_wp2_with fail
    refine hcl.out.mono ?_
    rintro e w1 ⟨v', rfl, hown, hb1⟩
    have hrow := IsRow_owned hown
    rw [map_cf_self] at hrow
    have hrowH := Lib.hid hrow
    clear hown hrow
    go_wp2_with fail
    go_ret2
    exact ⟨_, _, rfl, by rw [hd.out.1]; exact IsRow_nil _, by rw [hd.out.2]; exact hrowH.out, hb1⟩
  · have d1 := divp_fst p xs ys
    have d2 := divp_snd p xs ys
    have hix : ∃ K L, xs.length - (ys.length - 1) = K ∧ ys.length = L + 1 ∧ xs.length + 1 = K + (L + 1) := ⟨_, ys.length - 1, rfl, by omega, by omega⟩
    obtain ⟨K, L, hK, hL, hKL⟩ := hix
    rw [hK] at d1 d2
    have hd1 := Lib.hid d1
    have hd2 := Lib.hid d2
    clear hp hxa hxb hne d1 d2 hK
    have hinv := Lib.hid (invp_spec hpH.out hl.out hl2.out)
    have hKe : ((xs.length : Int)) - (ys.length : Int) + 1 = (K : Int) := by omega
    have hKeH := Lib.hid hKe
    have hin := hinv.out
    have hi0 := hin.1
    have hi1 := hin.2.1
    have hLH := Lib.hid hL
    have hKLH := Lib.hid hKL
    have hKl : K ≤ 1000 := by omega
    clear hin hKe hL hKL
    generalize hiv : invp p (cf ys (ys.length - 1)) = inv at *
    have hivH := Lib.hid hiv
    clear hiv
    go_enter Try.func43, Try.ntmps43
    go_wp2_with fail
    refine hcl.out.mono ?_
    rintro e w1 ⟨v', rfl, hown, hb1⟩
    obtain ⟨g, cap, rfl, hg, hcap1, hcap2, hW⟩ := WRow_owned hown (by omega)
    have hbr := Lib.hid (hbH.out.below (below_step hb1 (below_new w1 (.cells (arr K fun _ => .int .i64 0) 2))))
    have hWH := Lib.hid (hW.below (below_new w1 (.cells (arr K fun _ => .int .i64 0) 2)) hW.lt)
    have hB := below_step hb1 (below_new w1 (.cells (arr K fun _ => .int .i64 0) 2))
    have hgl := hW.lt
    have hws := hb1.size
    clear hown hW
    go_wp2_with (at_make; refine wpl_make_one rfl 33 2 _ _ rfl (.int .i64 0) Try.underlying33 iInt rfl .i64 .i64 _ _ K rfl rfl hKeH.out hKeH.out (by omega) ?_)
    refine (lead_any _ ys _ hbr.out).mono ?_
    rintro e w2 ⟨rfl, rfl⟩
    go_wp2_with fail
    refine (inverse_any p _ _ hpH.out (by have := hl.out; omega) hl2.out).mono ?_
    rintro e w2 ⟨rfl, rfl⟩
    rw [hivH.out]
    go_wp2_with fail
    go_loopw [11] (fun i wr => ∃ (k : Nat) (R : Nat → Int) (qv : Nat → Int), k ≤ K ∧ i = .int .i64 ((k : Int) - 1) ∧ In p R ∧ drest p inv ys K (cf xs) = drest p inv ys k R ∧
      (∀ j, dquot p inv ys K (cf xs) j = if k ≤ j then qv j else dquot p inv ys k R j) ∧ WRow wr g xs.length R ∧ Blk wr w1.heap.size (i64s K (fun j => if k ≤ j then qv j else 0)) 2 ∧ Below w.heap.size w wr) (fun i _ => (intOf i + 1).toNat)
    case atStart =>
      refine ⟨K, cf xs, fun _ => 0, Nat.le_refl _, rfl, hIn.out, rfl, fun j => ?_, hWH.out, (Blk.new w1 _ _).cast (arr_ext fun j hj => by simp), hB⟩
      by_cases hj : K ≤ j
      · rw [if_pos hj, dquot_ge _ _ _ _ _ _ hj]
      · rw [if_neg hj]
    case round =>
      obtain ⟨k, R, qv, hk, hi, hR, hdr, hdq, hW, hQ, hb⟩ := hrel
      have hRH := Lib.hid hR
      have hdrH := Lib.hid hdr
      have hdqH := Lib.hid hdq
      clear hR hdr hdq
      by_cases h0 : k = 0
      · subst h0
        simp only [Int.natCast_zero, Int.zero_sub] at hi
        subst hi
        have hqrow : IsRow wr (.slice (some ⟨w1.heap.size, 0, none⟩) K K) ((List.range K).map (dquot p inv ys K (cf xs))) := by
          have hlen : ((List.range K).map (dquot p inv ys K (cf xs))).length = K := by rw [List.length_map, List.length_range]
          refine ⟨some ⟨w1.heap.size, 0, none⟩, K, by rw [hlen], by omega, by unfold maxLen; omega, fun _ => ⟨_, 0, rfl, fun i hi => ?_⟩⟩
          rw [hlen] at hi
          rw [hQ.cell, Nat.zero_add, i64s_get _ hi, cf_map_range, if_pos hi, if_pos (Nat.zero_le _), hdqH.out i, if_pos (Nat.zero_le _)]
        have hqH := Lib.hid hqrow
        have hrrow := Lib.hid (hW.row hcap1 hcap2)
        clear hqrow
        go_wp2_with fail
        refine (trimmed_any _ _ _ hqH.out).mono ?_
        rintro e w2 ⟨v1, rfl, hr1, rfl⟩
        have hr1H := Lib.hid hr1
        clear hr1
        go_wp2_with fail
        refine (trimmed_any _ _ _ hrrow.out).mono ?_
        rintro e w2 ⟨v2, rfl, hr2, rfl⟩
        have hr2H := Lib.hid hr2
        clear hr2
        go_wp2_with fail
        go_ret2
        refine ⟨_, _, rfl, by rw [← hd1.out]; exact hr1H.out, ?_, hb⟩
        rw [← hd2.out, hdrH.out]; exact hr2H.out
      · obtain ⟨m, rfl⟩ : ∃ m, k = m + 1 := ⟨k - 1, by omega⟩
        rw [show (((m + 1 : Nat) : Int) - 1) = (m : Int) by omega] at hi
        subst hi
        have hL := hLH.out
        have hKL := hKLH.out
        have c0 := hW.cell (m + L) (by omega)
        have hie : ((m : Int) + (ys.length : Int) - 1) = ((m + L : Nat) : Int) := by omega
        have hlti : (m : Int) + (L : Int) < (xs.length : Int) := by omega
        have hRt := hRH.out (m + L)
        have ht := term_bound hRt.1 (by omega) (show 0 ≤ inv by omega) (by omega)
        have ht0 := ht.1
        have ht1 := ht.2
        have cq : wr.cell? ⟨w1.heap.size, m, none⟩ = some (.int .i64 0) := by rw [hQ.cell, i64s_get _ (by omega), if_neg (by omega)]
        have cqf := hQ.free m
        have hqb := mulmod_bound (p := p) (x := R (m + L)) (y := inv) (by omega)
        clear hL hKL hRt ht
        have hq0 := hqb.1
        have hq1 := hqb.2
        clear hqb
        go_wp2_with fail
        generalize hqq : R (m + L) * inv % p = q at *
        have hqH := Lib.hid hqq
        clear hqq
        have hW1 := (hW.set_other ⟨w1.heap.size, m, none⟩ (.int .i64 q) (by simp; omega)).ext (R' := dpart p q ys m 0 R) (fun i _ => by rw [dpart_zero])
        have hQ1 := (hQ.set m (.int .i64 q)).cast (cs' := i64s K (fun j => if m ≤ j then (if j = m then q else qv j) else 0)) (by
          rw [i64s_set]; apply i64s_ext; intro j _
          by_cases e1 : j = m
          · subst e1; simp
          · by_cases e2 : m ≤ j
            · simp [e1, e2, show m + 1 ≤ j by omega]
            · simp [e1, e2, show ¬ m + 1 ≤ j by omega])
        have hb2 : Below w.heap.size w (wr.setCell ⟨w1.heap.size, m, none⟩ (.int .i64 q)) := hb.setCell (by simp; omega) _
        clear hW hQ hb c0 cq cqf
        go_loopw [59] (fun i wr => ∃ j : Nat, j ≤ ys.length ∧ i = .int .i64 j ∧ WRow wr g xs.length (dpart p q ys m j R) ∧ Blk wr w1.heap.size (i64s K (fun j => if m ≤ j then (if j = m then q else qv j) else 0)) 2 ∧ Below w.heap.size w wr) (fun i _ => ys.length - (intOf i).toNat)
        case atStart => exact ⟨0, by omega, rfl, hW1, hQ1, hb2⟩
        case round =>
          clear hW1 hQ1 hb2
          obtain ⟨j, hj, rfl, hW, hQ, hb⟩ := hrel
          by_cases hlt : j < ys.length
          · have hjL : m + j < xs.length := by have := hLH.out; have := hKLH.out; omega
            have c1 : wr.cell? ⟨b2, off2 + j, none⟩ = some (.int .i64 (cf ys j)) := by rw [hb.cell hltb]; exact hc2H.out j hlt
            have c2 := hW.cell (m + j) hjL
            rw [dpart_at] at c2
            have c3 := hW.free (m + j)
            have hy := hyH.out j
            have hRt := hRH.out (m + j)
            have ht := term_bound (show 0 ≤ q by omega) (show q ≤ 6 by omega) hy.1 hy.2
            have ht0 := ht.1
            have ht1 := ht.2
            have hr0 := hRt.1
            have hr1 := hRt.2
            clear hy hRt ht
            go_wp2_with fail
            refine (reduce_any p _ _ hpH.out (by omega) (by omega)).mono ?_
            rintro e w2 ⟨rfl, rfl⟩
            go_wp2_with fail
            go_roundw
            case rel =>
              refine ⟨j + 1, by omega, by go_num, ?_, hQ.set_other _ _ (by simp; omega), hb.setCell (by simp; omega) _⟩
              refine (hW.set (m + j) _).ext fun i _ => ?_
              rw [dpart_step]
              by_cases e1 : i = m + j
              · subst e1; simp
              · simp [e1]
            case measure => simp [intOf] <;> omega
          · obtain rfl : j = ys.length := by omega
            have hst : dpart p q ys m ys.length R = dstep p inv ys m R := by rw [← hqH.out, ← dpart_all, hLH.out]; rfl
            rw [hst] at hW
            have hR2 := dstep_In (p := p) (inv := inv) (b := ys) (i := m) (by omega) hRH.out
            have hdr2 : drest p inv ys K (cf xs) = drest p inv ys m (dstep p inv ys m R) := hdrH.out
            have hdq2 : ∀ j, dquot p inv ys K (cf xs) j = if m ≤ j then (if j = m then q else qv j) else dquot p inv ys m (dstep p inv ys m R) j := by
              intro i
              rw [hdqH.out i]
              by_cases h1 : m + 1 ≤ i
              · rw [if_pos h1, if_pos (by omega), if_neg (by omega)]
              · rw [if_neg h1]
                show (if i = m then R (m + (ys.length - 1)) * inv % p else dquot p inv ys m (dstep p inv ys m R) i) = _
                by_cases h2 : i = m
                · rw [if_pos h2, if_pos (by omega), if_pos h2, ← hqH.out, hLH.out]; rfl
                · rw [if_neg h2, if_neg (by omega)]
            have H := Lib.hid (And.intro hR2 (And.intro hdr2 hdq2))
            clear hR2 hdr2 hdq2 hst
            go_wp2_with fail
            go_roundw
            case rel => exact ⟨m, _, _, by omega, by go_num, H.out.1, H.out.2.1, H.out.2.2, hW, hQ, hb⟩
            case measure => simp [intOf] <;> omega
end Go.Proofs.Ytojkngdabejjdaa

/- Walks: polynomials out of rows. -/
namespace Go.Proofs.Ytojkngdabejjdaa
open Go.RowKit

/-- What told gives. -/
def toldF (xs : List Int) : Nat → Int := if xs.length ≤ 64 then cf xs else fun _ => 0
def toldC (xs : List Int) : Int := if xs.length ≤ 64 then 0 else 3
end Go.Proofs.Ytojkngdabejjdaa

/- Walks: the greatest common divisor of rows with its factors. -/
namespace Go.Proofs.Ytojkngdabejjdaa
open Go.RowKit

theorem IsRow_one (w : World) (g : Nat) (x : Int) (h : w.cell? ⟨g, 0, none⟩ = some (.int .i64 x)) : IsRow w (.slice (some ⟨g, 0, none⟩) 1 1) [x] :=
  ⟨some ⟨g, 0, none⟩, 1, by simp, by simp, by unfold maxLen; omega, fun _ => ⟨g, 0, rfl, fun i hi => by
    have : i = 0 := by simpa using hi
    subst this; exact h⟩⟩
theorem bzl_stop (p : Int) (n : Nat) (a u x v y : List Int) : bzl p n a [] u x v y = (a, u, v) := by
  cases n with
  | zero => rfl
  | succ n => unfold bzl; rw [if_pos rfl]
theorem bzl_go {p : Int} {n : Nat} {a b u x v y : List Int} (h : b ≠ []) : bzl p (n + 1) a b u x v y = bzl p n b (divp p a b).2 x (addp p u (mulp p (divp p a b).1 x) (-1)) y (addp p v (mulp p (divp p a b).1 y) (-1)) := by
  rw [bzl]; rw [if_neg h]
def lenOf : Value → Nat
  | .slice _ n _ => n
  | _ => 0
theorem IsRow.lenOf {w : World} {v : Value} {xs : List Int} (h : IsRow w v xs) : lenOf v = xs.length := by
  obtain ⟨oa, ca, rfl, _, _, _⟩ := h; rfl
theorem mulp_length_le (p : Int) (a b : List Int) : (mulp p a b).length ≤ a.length + b.length := mkp_length _ _
/-- The state of the loop. -/
structure BzW (w : World) (va vb vu vx vv vy : Value) (a b u x v y : List Int) : Prop where
  a : IsRow w va a
  b : IsRow w vb b
  u : IsRow w vu u
  x : IsRow w vx x
  v : IsRow w vv v
  y : IsRow w vy y

set_option maxHeartbeats 2000000 in
theorem bezout_any (va vb : Value) (xs ys : List Int) (p : Int) (w : World) (hp : Pr p) (ha : IsRow w va xs) (hb : IsRow w vb ys) (hxa : Po p xs) (hxb : Po p ys) (hne : xs ≠ [] ∨ ys ≠ [])
    (la : xs.length ≤ 64) (lb : ys.length ≤ 64) :
    Calls Try.prog 25 #[.int .i64 p, va, vb] w fun e w' => ∃ v1 v2 v3, e = .returned (.tuple #[v1, v2, v3]) ∧ IsRow w' v1 (bez p xs ys).1 ∧ IsRow w' v2 (bez p xs ys).2.1 ∧ IsRow w' v3 (bez p xs ys).2.2 ∧ Below w.heap.size w w' := by
  have hs := BzS.start hp hxa hxb la lb hne
  obtain ⟨R, hR⟩ : ∃ R, bzl p (ys.length + 1) xs ys [1] [] [] [1] = R := ⟨_, rfl⟩
  have hez : bez p xs ys = (scl p R.1 (invp p (cf R.1 (R.1.length - 1))), scl p R.2.1 (invp p (cf R.1 (R.1.length - 1))), scl p R.2.2 (invp p (cf R.1 (R.1.length - 1)))) := by unfold bez; rw [hR]
  rw [hez]
  have hpH := Lib.hid hp
  have hsH := Lib.hid hs
  have hRH := Lib.hid hR
  have haH := Lib.hid ha
  have hbH := Lib.hid hb
  obtain ⟨A, hA⟩ : ∃ A, xs.length = A := ⟨_, rfl⟩
  obtain ⟨B, hB⟩ : ∃ B, ys.length = B := ⟨_, rfl⟩
  rw [hA, hB] at hsH
  rw [hB] at hRH
  have hAB := Lib.hid (show A ≤ 64 ∧ B ≤ 64 from ⟨hA ▸ la, hB ▸ lb⟩)
  have hBl := Lib.hid hB
  clear hp ha hb hxa hxb hne la lb hs hez hR hA hB
  go_enter Try.func25, Try.ntmps25
  go_wp2_with fail
  have hw0 : Below w.heap.size w ((w.alloc (Obj.cells #[Value.int IntKind.i64 1] 2)).alloc (Obj.cells #[Value.int IntKind.i64 1] 2)) := (below_new _ _).alloc (by simp) _
  have hst : BzW ((w.alloc (Obj.cells #[Value.int IntKind.i64 1] 2)).alloc (Obj.cells #[Value.int IntKind.i64 1] 2)) va vb (.slice (some ⟨w.heap.size, 0, none⟩) 1 1) (.slice none 0 0) (.slice none 0 0) (.slice (some ⟨w.heap.size + 1, 0, none⟩) 1 1) xs ys [1] [] [] [1] :=
    ⟨haH.out.below hw0, hbH.out.below hw0, IsRow_one _ _ _ (((Blk.new w #[Value.int IntKind.i64 1] 2).alloc _).cell 0), IsRow_nil _, IsRow_nil _, IsRow_one _ _ _ ((Blk.newAt (by simp) #[Value.int IntKind.i64 1] 2).cell 0)⟩
  generalize ((w.alloc (Obj.cells #[Value.int IntKind.i64 1] 2)).alloc (Obj.cells #[Value.int IntKind.i64 1] 2)) = w0 at *
  have hstH := Lib.hid hst
  clear hst haH hbH
  go_loopw [1, 2, 9, 10, 11, 12] (fun va vb vu vv vx vy wr => ∃ (n : Nat) (a b u x v y : List Int), b.length < n ∧ n ≤ 65 ∧ Hid (BzS p A B a b u x v y) ∧ Hid (bzl p n a b u x v y = R) ∧ Hid (BzW wr va vb vu vx vv vy a b u x v y) ∧ Below w.heap.size w wr) (fun _ vb _ _ _ _ _ => lenOf vb)
  case atStart => exact ⟨B + 1, xs, ys, [1], [], [], [1], by have := hBl.out; omega, by have := hAB.out.2; omega, hsH, hRH, hstH, hw0⟩
  case round =>
    clear hsH hRH hstH hw0
    obtain ⟨n, a, b, u, x, v, y, hn1, hn2, hS, hRr, hW, hb⟩ := hrel
    obtain ⟨k, rfl⟩ : ∃ k, n = k + 1 := ⟨n - 1, by omega⟩
    have hlb := hS.out.lb
    obtain ⟨ob, cb, hvb, _, _, _⟩ := hW.out.b
    subst hvb
    by_cases h0 : b.length = 0
    · have hb0 : ¬ 0 < (b.length : Int) := by omega
      have hbn := List.length_eq_zero_iff.1 h0
      subst hbn
      have hR2 : R = (a, u, v) := hRr.out.symm.trans (bzl_stop _ _ _ _ _ _ _)
      subst hR2
      have hA64 := Lib.hid (hS.out.la)
      have hane := Lib.hid (hS.out.ne.resolve_right (fun h => h rfl))
      clear hRr hn1 h0
      go_wp2_with fail
      refine (lead_any _ a _ hW.out.a).mono ?_
      rintro e w2 ⟨rfl, rfl⟩
      go_wp2_with fail
      refine (inverse_any p _ _ hpH.out (hS.out.pa.md _).1 (hS.out.pa.md _).2).mono ?_
      rintro e w2 ⟨rfl, rfl⟩
      have hi := invp_spec hpH.out (hS.out.pa.lead hane.out) (hS.out.pa.md _).2
      have hp2 := hpH.out.pos
      have hi0 := Lib.hid (show -1000 ≤ invp p (cf a (a.length - 1)) ∧ invp p (cf a (a.length - 1)) ≤ 1000 by omega)
      have hul := Lib.hid hS.out.iu.hl
      have hvl := Lib.hid hS.out.iv.hl
      clear hi hp2
      generalize hiv : invp p (cf a (a.length - 1)) = iv at *
      have hivH := Lib.hid hiv
      clear hiv
      go_wp2_with fail
      refine (scale_any _ a p iv _ hpH.out hW.out.a hS.out.pa.md hi0.out.1 hi0.out.2 (by have := hA64.out; omega)).mono ?_
      rintro e w2 ⟨v1, rfl, hr1, hb1⟩
      have hr1H := Lib.hid hr1
      have hW1 := Lib.hid (hW.out.u.below hb1)
      have hW2 := Lib.hid (hW.out.v.below hb1)
      have hb2 := below_step hb hb1
      clear hr1 hW hb hb1
      go_wp2_with fail
      refine (scale_any _ u p iv _ hpH.out hW1.out hS.out.pu.md hi0.out.1 hi0.out.2 (by have := hul.out; omega)).mono ?_
      rintro e w3 ⟨v2, rfl, hr2, hb1⟩
      have hr2H := Lib.hid hr2
      have hr1I := Lib.hid (hr1H.out.below hb1)
      have hW3 := Lib.hid (hW2.out.below hb1)
      have hb3 := below_step hb2 hb1
      clear hr2 hr1H hW2 hb2 hb1
      go_wp2_with fail
      refine (scale_any _ v p iv _ hpH.out hW3.out hS.out.pv.md hi0.out.1 hi0.out.2 (by have := hvl.out; omega)).mono ?_
      rintro e w4 ⟨v3, rfl, hr3, hb1⟩
      have h1 := Lib.hid (hr1I.out.below hb1)
      have h2 := Lib.hid (hr2H.out.below hb1)
      have h3 := Lib.hid hr3
      have hb4 := below_step hb3 hb1
      clear hr3 hr1I hr2H hW3 hb3 hb1
      go_wp2_with fail
      go_ret3
      refine ⟨_, _, _, rfl, ?_, ?_, ?_, hb4⟩
      · rw [hivH.out]; exact h1.out
      · rw [hivH.out]; exact h2.out
      · rw [hivH.out]; exact h3.out
    · have hb0 : 0 < (b.length : Int) := by omega
      have hbn : b ≠ [] := fun h => h0 (by rw [h]; rfl)
      have hR2 := Lib.hid ((bzl_go hbn).symm.trans hRr.out)
      have hdp := Lib.hid (divp_Po hpH.out hS.out.pa hS.out.pb hbn)
      have hla := Lib.hid hS.out.la
      have hprod := Lib.hid (show (divp p a b).1.length ≤ 64 ∧ x.length ≤ 64 ∧ y.length ≤ 64 ∧ u.length ≤ 64 ∧ v.length ≤ 64 from
        ⟨Nat.le_trans (divp_quot_le p a b) (by have := hla.out; omega), by rcases hS.out.iu.hx with h | h; (· rw [h]; simp); exact h.1, by rcases hS.out.iv.hx with h | h; (· rw [h]; simp); exact h.1, hS.out.iu.hl, hS.out.iv.hl⟩)
      have hSn := Lib.hid (hS.out.step hpH.out hAB.out.1 hAB.out.2 hbn)
      have hbnH := Lib.hid hbn
      have hrl := Lib.hid (hdp.out.2.2)
      clear hRr h0 hbn
      go_wp2_with fail
      refine (divide_any _ _ a b p _ hpH.out hW.out.a hW.out.b hS.out.pa hS.out.pb hbnH.out (by have := hla.out; omega) (by omega)).mono ?_
      rintro e w2 ⟨q, r, rfl, hq, hr, hb1⟩
      have hqH := Lib.hid hq
      have hWa := Lib.hid (And.intro (hW.out.b.below hb1) hr)
      have hWu := Lib.hid (And.intro (hW.out.u.below hb1) (hW.out.x.below hb1))
      have hWv := Lib.hid (And.intro (hW.out.v.below hb1) (hW.out.y.below hb1))
      have hb2 := below_step hb hb1
      clear hq hr hb hb1 hW
      go_wp2_with fail
      refine (times_any _ _ _ x p _ hpH.out hqH.out hWu.out.2 hdp.out.1.md hS.out.px.md (by have := hprod.out; omega) (by have := hprod.out; omega)).mono ?_
      rintro e w3 ⟨t1, rfl, ht1, hb1⟩
      have ht1H := Lib.hid ht1
      replace hqH := Lib.hid (hqH.out.below hb1)
      replace hWa := Lib.hid (And.intro (hWa.out.1.below hb1) (hWa.out.2.below hb1))
      replace hWu := Lib.hid (And.intro (hWu.out.1.below hb1) (hWu.out.2.below hb1))
      replace hWv := Lib.hid (And.intro (hWv.out.1.below hb1) (hWv.out.2.below hb1))
      replace hb2 := below_step hb2 hb1
      clear ht1 hb1
      go_wp2_with fail
      refine (combine_any _ _ u _ p (-1) _ hpH.out hWu.out.1 ht1H.out hS.out.pu.md (mulp_Po (by have := hpH.out.pos; omega) _ _).md (by decide) (by decide) (by have := hprod.out; omega) (by have := mulp_length_le p (divp p a b).1 x; have := hprod.out; omega)).mono ?_
      rintro e w4 ⟨t2, rfl, ht2, hb1⟩
      have ht2H := Lib.hid ht2
      replace hqH := Lib.hid (hqH.out.below hb1)
      replace hWa := Lib.hid (And.intro (hWa.out.1.below hb1) (hWa.out.2.below hb1))
      replace hWu := Lib.hid (hWu.out.2.below hb1)
      replace hWv := Lib.hid (And.intro (hWv.out.1.below hb1) (hWv.out.2.below hb1))
      replace hb2 := below_step hb2 hb1
      clear ht2 hb1 ht1H
      go_wp2_with fail
      refine (times_any _ _ _ y p _ hpH.out hqH.out hWv.out.2 hdp.out.1.md hS.out.py.md (by have := hprod.out; omega) (by have := hprod.out; omega)).mono ?_
      rintro e w5 ⟨t3, rfl, ht3, hb1⟩
      have ht3H := Lib.hid ht3
      replace ht2H := Lib.hid (ht2H.out.below hb1)
      replace hWa := Lib.hid (And.intro (hWa.out.1.below hb1) (hWa.out.2.below hb1))
      replace hWu := Lib.hid (hWu.out.below hb1)
      replace hWv := Lib.hid (And.intro (hWv.out.1.below hb1) (hWv.out.2.below hb1))
      replace hb2 := below_step hb2 hb1
      clear ht3 hb1 hqH
      go_wp2_with fail
      refine (combine_any _ _ v _ p (-1) _ hpH.out hWv.out.1 ht3H.out hS.out.pv.md (mulp_Po (by have := hpH.out.pos; omega) _ _).md (by decide) (by decide) (by have := hprod.out; omega) (by have := mulp_length_le p (divp p a b).1 y; have := hprod.out; omega)).mono ?_
      rintro e w6 ⟨t4, rfl, ht4, hb1⟩
      have hWW := Lib.hid (BzW.mk (hWa.out.1.below hb1) (hWa.out.2.below hb1) (hWu.out.below hb1) (ht2H.out.below hb1) (hWv.out.2.below hb1) ht4)
      replace hb2 := below_step hb2 hb1
      clear ht4 hb1 ht3H ht2H hWa hWu hWv
      go_wp2_with fail
      go_roundw
      case rel => exact ⟨k, _, _, _, _, _, _, by have := hrl.out; omega, by omega, hSn, hR2, hWW, hb2⟩
      case measure => rw [hWW.out.b.lenOf]; exact hrl.out
end Go.Proofs.Ytojkngdabejjdaa

/- Walks: rests and powers of rows. -/
namespace Go.Proofs.Ytojkngdabejjdaa
open Go.RowKit

set_option maxHeartbeats 400000 in
theorem rest_any (va vb : Value) (xs ys : List Int) (p : Int) (w : World) (hp : Pr p) (ha : IsRow w va xs) (hb : IsRow w vb ys) (hxa : Po p xs) (hxb : Po p ys) (hne : ys ≠ [])
    (la : xs.length ≤ 1000) (lb : ys.length ≤ 1000) :
    Calls Try.prog 27 #[.int .i64 p, va, vb] w fun e w' => ∃ v, e = .returned v ∧ IsRow w' v (rst p xs ys) ∧ Below w.heap.size w w' := by
  have H := Lib.hid (divide_any va vb xs ys p w hp ha hb hxa hxb hne la lb)
  clear hp ha hb hxa hxb hne la lb
  go_enter Try.func27, Try.ntmps27
  go_wp2_with fail
  refine H.out.mono ?_
  rintro e w1 ⟨v1, v2, rfl, h1, h2, hb1⟩
  have h2H := Lib.hid h2
  clear h1 h2
  go_wp2_with fail
  go_ret
  exact ⟨_, rfl, h2H.out, hb1⟩

theorem and_one_i64 (j : Nat) (h : j ≤ 1000000000000) : bits BinOp.and IntKind.i64 (j : Int) 1 = ((j % 2 : Nat) : Int) := by
  have h1 : (BitVec.ofInt 64 (j : Int)).toNat = j := by
    rw [BitVec.ofInt_natCast, BitVec.toNat_ofNat]; exact Nat.mod_eq_of_lt (by omega)
  show IntKind.i64.wrap ((BitVec.ofInt 64 (j : Int) &&& BitVec.ofInt 64 ((1 : Nat) : Int)).toNat : Int) = _
  rw [BitVec.toNat_and, h1, show (BitVec.ofInt 64 ((1 : Nat) : Int)).toNat = 1 by decide, Nat.and_one_is_mod, IntKind.wrap_i64]
  omega
theorem shr_one (j : Nat) : Int.fdiv (j : Int) 2 = ((j / 2 : Nat) : Int) := by
  rw [Int.fdiv_eq_ediv_of_nonneg _ (by omega)]; omega

/-- The state of the loop. -/
structure PwS (w : World) (vo vb vm : Value) (p : Int) (ms : List Int) (R : List Int) (j : Nat) (o b : List Int) : Prop where
  ro : IsRow w vo o
  rb : IsRow w vb b
  rm : IsRow w vm ms
  po : Po p o
  pb : Po p b
  lo : o.length < ms.length
  lb : b.length < ms.length
  pm : Po p ms
  lm : ms.length ≤ 64
  ne : ms ≠ []
  pr : Pr p
  eq : pwl p ms j o b = R

end Go.Proofs.Ytojkngdabejjdaa

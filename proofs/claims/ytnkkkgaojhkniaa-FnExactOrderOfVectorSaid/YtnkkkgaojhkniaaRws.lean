/- Several texts in one: W8, W9, A1, A2, A3, A4, A5, A6, A8. -/
import Derived.Test.YtnkkkgaojhkniaaCode
import Derived.StillTailTactics
import Derived.Test.YtnkkkgaojhkniaaBase
import Derived.Test.YtnkkkgaojhkniaaPure
import Derived.OwnWalk
set_option linter.unusedVariables false
set_option linter.unusedSimpArgs false
/- Walks: values of polynomials, derivatives. -/
namespace Go.Proofs.Ytnkkkgaojhkniaa
open Go.RowKit

/-- The value by Horner's way, tl the program reckons it. -/
def ev (p x : Int) : List Int → Int
  | [] => 0
  | a :: tl => (ev p x tl * x + a) % p
theorem ev_bounds (p x : Int) (hp : 0 < p) (l : List Int) : 0 ≤ ev p x l ∧ ev p x l < p := by
  cases l with
  | nil => exact ⟨Int.le_refl _, hp⟩
  | cons a tl => exact ⟨Int.emod_nonneg _ (by omega), Int.emod_lt_of_pos _ hp⟩
theorem ev_drop (p x : Int) (xs : List Int) (k : Nat) (h : k < xs.length) : ev p x (xs.drop k) = (ev p x (xs.drop (k + 1)) * x + cf xs k) % p := by
  rw [List.drop_eq_getElem_cons h, cf_lt xs k h]; rfl
theorem ev_trim (p x : Int) (xs : List Int) : ev p x (trim xs) = ev p x xs := by
  induction xs with
  | nil => rfl
  | cons a tl ih =>
    unfold trim
    split
    · rename_i h
      obtain ⟨h1, h2⟩ := h
      subst h2
      rw [h1] at ih
      show (0 : Int) = (ev p x tl * x + 0) % p
      rw [← ih]; simp [ev]
    · show (ev p x (trim tl) * x + a) % p = _
      rw [ih]; rfl

theorem mul_small {y x p : Int} (hp : p ≤ 7) (hy0 : 0 ≤ y) (hy1 : y < p) (hx0 : 0 ≤ x) (hx1 : x < p) : 0 ≤ y * x ∧ y * x ≤ 49 := by
  refine ⟨Int.mul_nonneg hy0 hx0, ?_⟩
  have h1 : y * x ≤ 7 * x := Int.mul_le_mul_of_nonneg_right (by omega) hx0
  omega

end Go.Proofs.Ytnkkkgaojhkniaa

/- Walks: ValueAt and DerivativeOf on both sides. -/
namespace Go.Proofs.Ytnkkkgaojhkniaa
open Go.RowKit

theorem good_pr {p : Int} {fs : List (Nat → Int)} (h : Good p fs) : Pr p := h.1
theorem dec_true (P : Prop) : ∃ b : Bool, P ↔ b = true := by
  by_cases h : P
  · exact ⟨true, by simp [h]⟩
  · exact ⟨false, by simp [h]⟩
theorem mkp_By {f : Nat → Int} (hf : By f) (n : Nat) : ∀ i, 0 ≤ cf (mkp n f) i ∧ cf (mkp n f) i ≤ 255 := fun i => by
  rw [mkp_cf]; split
  · exact hf i
  · omega


end Go.Proofs.Ytnkkkgaojhkniaa

/- Walks: numbers modulo p and sums of rows. -/
namespace Go.Proofs.Ytnkkkgaojhkniaa
open Go.RowKit

theorem powm_range {p x : Int} (hp : 2 ≤ p) : ∀ n, 0 ≤ powm p x n ∧ powm p x n < p
  | 0 => by show (0 : Int) ≤ 1 ∧ (1 : Int) < p; omega
  | n + 1 => ⟨Int.emod_nonneg _ (by omega), Int.emod_lt_of_pos _ (by omega)⟩

set_option maxHeartbeats 400000 in
theorem inverse_any (p n : Int) (w : World) (hp : Pr p) (h0 : 0 ≤ n) (h1 : n < p) :
    Calls Try.prog 75 #[.int .i64 p, .int .i64 n] w fun e w' => e = .returned (.int .i64 (invp p n)) ∧ w = w' := by
  have hp1 := hp.pos.1
  have hp2 := hp.pos.2
  clear hp
  have hpz : (p == 0) = false := by rw [beq_eq_false_iff_ne]; omega
  go_enter Try.func75, Try.ntmps75
  go_wp2_with fail
  go_loop [5, 8] (fun t i => ∃ (k : Nat) (y : Int), (k : Int) ≤ p - 2 ∧ i = .int .i64 k ∧ t = .int .i64 y ∧ y = powm p n k) (fun _ i => (p - intOf i).toNat)
  case atStart => exact ⟨0, 1, by omega, rfl, rfl, rfl⟩
  case round =>
    obtain ⟨k, y, hk, rfl, rfl, hy⟩ := hrel
    have hyb := powm_range (x := n) hp1 k
    rw [← hy] at hyb
    have hyH := Lib.hid hy; clear hy
    by_cases hlt : (k : Int) < p - 2
    · have hm := mul_small hp2 hyb.1 hyb.2 h0 h1
      have hm1 := hm.1
      have hm2 := hm.2
      clear hm
      go_wp2_with fail
      go_round
      case rel => exact ⟨k + 1, _, by omega, by go_num, rfl, by show _ = powm p n k * n % p; rw [← hyH.out]⟩
      case measure => simp [intOf] <;> omega
    · have hkk : (k : Int) = p - 2 := by omega
      have hkH := Lib.hid (show (p - 2).toNat = k by omega)
      clear hkk
      go_wp2_with fail
      go_ret
      refine ⟨ret_int ?_, rfl⟩
      unfold invp; rw [hkH.out, ← hyH.out]

theorem cf_lt7 {p : Int} {xs : List Int} (hp : Pr p) (h : Md p xs) (i : Nat) : 0 ≤ cf xs i ∧ cf xs i ≤ 6 := by
  have := h i; have := hp.pos; omega

theorem mul_t {t y : Int} (ht0 : -1000 ≤ t) (ht1 : t ≤ 1000) (hy0 : 0 ≤ y) (hy1 : y ≤ 6) : -6000 ≤ t * y ∧ t * y ≤ 6000 := by
  constructor
  · have := Int.mul_le_mul_of_nonneg_right ht0 hy0; omega
  · have := Int.mul_le_mul_of_nonneg_right ht1 hy0; omega

set_option maxHeartbeats 1000000 in
theorem combine_any (va vb : Value) (xs ys : List Int) (p t : Int) (w : World) (hp : Pr p) (ha : IsRow w va xs) (hb : IsRow w vb ys) (hxa : Md p xs) (hxb : Md p ys)
    (ht0 : -1000 ≤ t) (ht1 : t ≤ 1000) (la : xs.length ≤ 100000000) (lb : ys.length ≤ 100000000) :
    Calls Try.prog 67 #[.int .i64 p, va, vb, .int .i64 t] w fun e w' => ∃ v, e = .returned v ∧ IsRow w' v (addp p xs ys t) ∧ Below w.heap.size w w' := by
  have hxaH := Lib.hid hxa
  have hxbH := Lib.hid hxb
  have haH := Lib.hid ha
  have hbH := Lib.hid hb
  have hpH := Lib.hid hp
  have hp1 := hp.pos.1
  have hp2 := hp.pos.2
  obtain ⟨oa, ca, rfl, hlea, _, _⟩ := ha
  obtain ⟨ob, cb, rfl, hleb, _, _⟩ := hb
  have hL := Nat.le_max_left xs.length ys.length
  have hR := Nat.le_max_right xs.length ys.length
  have hM : max xs.length ys.length ≤ 100000000 := Nat.max_le.2 ⟨la, lb⟩
  clear hxa hxb hp
  have hpz : (p == 0) = false := by rw [beq_eq_false_iff_ne]; omega
  have hsel : (xs.length < ys.length ∧ ys.length = max xs.length ys.length) ∨ (¬ xs.length < ys.length ∧ xs.length = max xs.length ys.length) := by omega
  generalize hMM : max xs.length ys.length = M at *
  have hMH := Lib.hid hMM
  clear hMM
  rcases hsel with ⟨hsl, hse⟩ | ⟨hsl, hse⟩
  all_goals
    have hseH := Lib.hid (congrArg (fun n : Nat => (n : Int)) hse)
    clear hse
    go_enter Try.func67, Try.ntmps67
    go_wp2_with (at_make; refine wpl_make_one rfl 62 2 _ _ rfl (.int .i64 0) Try.underlying62 iInt rfl .i64 .i64 _ _ M rfl rfl hseH.out hseH.out (by omega) ?_)
    go_loopw [19] (fun i wr => ∃ k : Nat, k ≤ M ∧ i = .int .i64 k ∧ Blk wr w.heap.size (i64s M (fun j => if j < k then (cf xs j + t * cf ys j) % p else 0)) 2 ∧ Below w.heap.size w wr) (fun i _ => M - (intOf i).toNat)
    case atStart => exact ⟨0, by omega, rfl, (Blk.new w _ _).cast (arr_ext fun j _ => by simp), below_new _ _⟩
    case round =>
      obtain ⟨k, hk, rfl, b0, hb⟩ := hrel
      by_cases hlt : k < M
      · have hx := cf_lt7 hpH.out hxaH.out k
        have hy := cf_lt7 hpH.out hxbH.out k
        have hx0 := hx.1
        have hx1 := hx.2
        have hm := mul_t ht0 ht1 hy.1 hy.2
        have hm0 := hm.1
        have hm1 := hm.2
        have ra := Lib.hid (haH.out.below hb)
        have rb := Lib.hid (hbH.out.below hb)
        have c0 : wr.cell? ⟨w.heap.size, k, none⟩ = some (.int .i64 0) := by rw [b0.cell, i64s_get _ hlt]; simp
        have c1 := b0.free k
        clear hx hy hm
        go_wp2_with fail
        refine (at_any _ xs k _ ra.out (by omega)).mono ?_
        rintro e w1 ⟨rfl, rfl⟩
        go_wp2_with fail
        refine (at_any _ ys k _ rb.out (by omega)).mono ?_
        rintro e w1 ⟨rfl, rfl⟩
        go_wp2_with fail
        refine (reduce_any p _ _ hpH.out (by omega) (by omega)).mono ?_
        rintro e w1 ⟨rfl, rfl⟩
        go_wp2_with fail
        go_roundw
        case rel =>
          refine ⟨k + 1, by omega, by go_num, ?_, hb.setCell (by simp) _⟩
          refine (b0.set k _).cast ?_
          rw [i64s_set]; apply i64s_ext; intro j _
          by_cases e1 : j = k
          · subst e1; simp
          · by_cases e2 : j < k
            · simp [e1, e2, show j < k + 1 by omega]
            · simp [e1, e2, show ¬ j < k + 1 by omega]
        case measure => simp [intOf] <;> omega
      · obtain rfl : k = M := by omega
        have hrow : IsRow wr (.slice (some ⟨w.heap.size, 0, none⟩) k k) ((List.range k).map fun i => (cf xs i + t * cf ys i) % p) := by
          have hlen : ((List.range k).map fun i => (cf xs i + t * cf ys i) % p).length = k := by rw [List.length_map, List.length_range]
          refine ⟨some ⟨w.heap.size, 0, none⟩, k, by rw [hlen], by omega, by unfold maxLen; omega, fun _ => ⟨_, 0, rfl, fun i hi => ?_⟩⟩
          rw [hlen] at hi
          rw [b0.cell, Nat.zero_add, i64s_get _ hi, cf_map_range, if_pos hi]
        have hrowH := Lib.hid hrow
        clear hrow
        go_wp2_with fail
        refine (trimmed_any _ _ _ hrowH.out).mono ?_
        rintro e w1 ⟨v', rfl, hr, rfl⟩
        have hr2 : IsRow wr v' (addp p xs ys t) := by unfold addp mkp; rw [hMH.out]; exact hr
        go_wp2_with fail
        go_ret
        exact ⟨_, rfl, hr2, hb⟩

set_option maxHeartbeats 400000 in
theorem scale_any (va : Value) (xs : List Int) (p t : Int) (w : World) (hp : Pr p) (ha : IsRow w va xs) (hxa : Md p xs)
    (ht0 : -1000 ≤ t) (ht1 : t ≤ 1000) (la : xs.length ≤ 100000000) :
    Calls Try.prog 87 #[.int .i64 p, va, .int .i64 t] w fun e w' => ∃ v, e = .returned v ∧ IsRow w' v (addp p [] xs t) ∧ Below w.heap.size w w' := by
  have hp2 := hp.pos
  have h1 := combine_any (.slice none 0 0) va [] xs p t w hp (IsRow_nil w) ha (Md_nil (by omega)) hxa ht0 ht1 (by simp) la
  have H1 := Lib.hid h1
  clear h1 ha hxa hp hp2
  go_enter Try.func87, Try.ntmps87
  go_wp2_with fail
  refine H1.out.mono ?_
  rintro e w1 ⟨v, rfl, hr, hb⟩
  go_wp2_with fail
  go_ret
  exact ⟨_, rfl, hr, hb⟩
end Go.Proofs.Ytnkkkgaojhkniaa

/- Walks: products of rows. -/
namespace Go.Proofs.Ytnkkkgaojhkniaa
open Go.RowKit

/-- A product, without what surely is 0. -/
theorem mulp_mkp (p : Int) (xs ys : List Int) : mkp (xs.length + ys.length - 1) (fun n => pmul (cf xs) (cf ys) n % p) = mulp p xs ys := by
  have hF := (cf_Fin0 xs).mul (cf_Fin0 ys)
  refine Tr_ext (mkp_Tr _ _) (mkp_Tr _ _) fun i => ?_
  rw [mulp_cf, mkp_cf]
  split
  · rfl
  · rw [hF i (by omega)]; rfl

end Go.Proofs.Ytnkkkgaojhkniaa

/- Walks: division of rows. -/
namespace Go.Proofs.Ytnkkkgaojhkniaa
open Go.RowKit

theorem sInt : (Try.prog.info? 2).map (·.size) = some 1 := by kernel_rfl

/-- A block of the call's own that reads as a row, and may be written. -/
def WRow (w : World) (g : Nat) (n : Nat) (R : Nat → Int) : Prop := ∃ cur, Blk w g cur 2 ∧ ∀ i, i < n → cur[i]? = some (.int .i64 (R i))
theorem WRow.cell {w : World} {g n : Nat} {R : Nat → Int} (h : WRow w g n R) (i : Nat) (hi : i < n) : w.cell? ⟨g, i, none⟩ = some (.int .i64 (R i)) := by
  obtain ⟨cur, hb, hc⟩ := h
  rw [hb.cell, hc i hi]
theorem WRow.free {w : World} {g n : Nat} {R : Nat → Int} (h : WRow w g n R) (i : Nat) : w.frozen? ⟨g, i, none⟩ = false := by
  obtain ⟨cur, hb, _⟩ := h
  exact hb.free i
theorem WRow.lt {w : World} {g n : Nat} {R : Nat → Int} (h : WRow w g n R) : g < w.heap.size := by
  obtain ⟨cur, hb, _⟩ := h
  exact hb.lt
theorem WRow.below {B : Nat} {w w' : World} {g n : Nat} {R : Nat → Int} (h : WRow w g n R) (hb : Below B w w') (hg : g < B) : WRow w' g n R := by
  obtain ⟨cur, h1, h2⟩ := h
  exact ⟨cur, h1.below hb hg, h2⟩
theorem WRow.set {w : World} {g n : Nat} {R : Nat → Int} (h : WRow w g n R) (i : Nat) (x : Int) : WRow (w.setCell ⟨g, i, none⟩ (.int .i64 x)) g n (fun j => if j = i then x else R j) := by
  obtain ⟨cur, hb, hc⟩ := h
  refine ⟨_, hb.set i _, fun j hj => ?_⟩
  have hs : j < cur.size := by
    have := hc j hj
    exact (Array.getElem?_eq_some_iff.1 this).1
  rw [Array.getElem?_setIfInBounds]
  by_cases e : i = j
  · subst e; rw [if_pos rfl, if_pos hs]; simp
  · rw [if_neg e, hc j hj]; simp [Ne.symm e]
theorem WRow.set_other {w : World} {g n : Nat} {R : Nat → Int} (h : WRow w g n R) (a : Addr) (v : Value) (hne : g ≠ a.block) : WRow (w.setCell a v) g n R := by
  obtain ⟨cur, hb, hc⟩ := h
  exact ⟨cur, hb.set_other a v hne, hc⟩
theorem WRow.ext {w : World} {g n : Nat} {R R' : Nat → Int} (h : WRow w g n R) (he : ∀ i, i < n → R i = R' i) : WRow w g n R' := by
  obtain ⟨cur, hb, hc⟩ := h
  exact ⟨cur, hb, fun i hi => by rw [hc i hi, he i hi]⟩
theorem WRow.row {w : World} {g n cap : Nat} {R : Nat → Int} (h : WRow w g n R) (hn : n ≤ cap) (hc : cap ≤ maxLen) : IsRow w (.slice (some ⟨g, 0, none⟩) n cap) ((List.range n).map R) := by
  have hlen : ((List.range n).map R).length = n := by rw [List.length_map, List.length_range]
  refine ⟨some ⟨g, 0, none⟩, cap, by rw [hlen], by omega, hc, fun _ => ⟨_, 0, rfl, fun i hi => ?_⟩⟩
  rw [hlen] at hi
  rw [Nat.zero_add, h.cell i hi, cf_map_range, if_pos hi]
/-- What the call has cloned. -/
theorem WRow_owned {w : World} {base n : Nat} {v : Value} {f : Nat → Int} (h : w.ownsRow base 2 1 v n ((List.range n).map fun j => .int .i64 (f j))) (hn : 0 < n) :
    ∃ g cap, v = .slice (some ⟨g, 0, none⟩) n cap ∧ base ≤ g ∧ n ≤ cap ∧ cap ≤ maxLen ∧ WRow w g n f := by
  rcases h with ⟨_, ⟨rfl, rfl⟩ | ⟨g, cap, cur, rfl, hg, hb, h1, h2, h3, h4⟩⟩
  · omega
  · refine ⟨g, cap, rfl, hg, h1, h2, cur, hb, fun i hi => ?_⟩
    have h5 : (cur.toList.take (n * 1))[i]? = some (.int .i64 (f i)) := by
      rw [h4, List.getElem?_map, List.getElem?_range hi]; rfl
    rw [List.getElem?_take, if_pos (by omega)] at h5
    simpa using h5
end Go.Proofs.Ytnkkkgaojhkniaa

/- Walks: division of rows. -/
namespace Go.Proofs.Ytnkkkgaojhkniaa
open Go.RowKit

theorem map_cf_self (xs : List Int) : (List.range xs.length).map (cf xs) = xs := by
  apply List.ext_getElem (by simp)
  intro i h1 h2
  rw [List.getElem_map, List.getElem_range, cf_lt xs i h2]
theorem mkp_self {xs : List Int} (h : Tr xs) : mkp xs.length (cf xs) = xs := by
  unfold mkp; rw [map_cf_self, trim_of_Tr h]

/-- The lists of a division. -/
theorem divp_fst (p : Int) (xs ys : List Int) : mkp (xs.length - (ys.length - 1)) (dquot p (invp p (cf ys (ys.length - 1))) ys (xs.length - (ys.length - 1)) (cf xs)) = (divp p xs ys).1 := rfl
theorem divp_snd (p : Int) (xs ys : List Int) : mkp xs.length (drest p (invp p (cf ys (ys.length - 1))) ys (xs.length - (ys.length - 1)) (cf xs)) = (divp p xs ys).2 := rfl
theorem divp_short {p : Int} {xs ys : List Int} (hx : Tr xs) (h : xs.length < ys.length) : (divp p xs ys).1 = [] ∧ (divp p xs ys).2 = xs := by
  rw [← divp_fst, ← divp_snd, show xs.length - (ys.length - 1) = 0 by omega]
  exact ⟨rfl, mkp_self hx⟩

end Go.Proofs.Ytnkkkgaojhkniaa

/- Walks: polynomials out of rows. -/
namespace Go.Proofs.Ytnkkkgaojhkniaa
open Go.RowKit

set_option maxHeartbeats 400000 in
theorem fits_any (v : Value) (xs : List Int) (w : World) (h : IsRow w v xs) (b : Bool) (hb : decide (xs.length ≤ 64) = b) :
    Calls Try.prog 70 #[v] w fun e w' => e = .returned (.bool b) ∧ w = w' := by
  have hd := Lib.hid (degree_any v xs w h)
  have hb2 : decide (((xs.length : Int) - 1) ≤ 63) = b := by rw [← hb]; apply decide_eq_decide.2; omega
  clear h hb
  go_enter Try.func70, Try.ntmps70
  go_wp2_with fail
  refine hd.out.mono ?_
  rintro e w1 ⟨rfl, rfl⟩
  go_wp2_with fail
  go_ret
  exact ⟨rfl, rfl⟩

set_option maxHeartbeats 400000 in
theorem poly_any (v : Value) (xs : List Int) (w : World) (h : IsRow w v xs) (hx : ∀ i, 0 ≤ cf xs i ∧ cf xs i ≤ 255) (hL : xs.length ≤ 64) :
    Calls Try.prog 71 #[v] w fun e w' => e = .returned (.agg (u8s 64 (cf xs))) ∧ Below w.heap.size w w' := by
  obtain ⟨oa, cap, rfl, hle, hcap, hcell⟩ := h
  have hcellH := Lib.hid hcell
  have hxH := Lib.hid hx
  clear hcell hx hcap
  obtain ⟨hb0, hB1, hB2⟩ := boxes2 w (u8s 64 fun _ => 0) (u8s 64 fun _ => 0) 33 33
  have hzH := Lib.hid ((fun i (hi : xs.length ≤ i) => cf_ge xs i hi))
  go_enter Try.func71, Try.ntmps71
  go_wp2_with (first | (refine wpl_alloc_arr rfl 33 rfl _ zPoly ?_))
  go_loopw [8] (fun i wr => ∃ k : Nat, k ≤ xs.length ∧ i = .int .i64 k ∧ Blk wr w.heap.size (u8s 64 fun _ => 0) 33 ∧ Blk wr (w.heap.size + 1) (u8s 64 fun j => if j < k then cf xs j else 0) 33 ∧ Below w.heap.size w wr) (fun i _ => xs.length - (intOf i).toNat)
  case atStart => exact ⟨0, by omega, rfl, hB1, hB2.cast (u8s_ext fun j _ => by simp), hb0⟩
  case round =>
    clear hB1 hB2 hb0
    obtain ⟨k, hk, rfl, b0, b1, hb⟩ := hrel
    by_cases hlt : k < xs.length
    · obtain ⟨b, off, rfl, hc⟩ := hcellH.out (by omega)
      have c0 : wr.cell? ⟨b, off + k, none⟩ = some (.int .i64 (cf xs k)) := by rw [hb.cell (block_lt_of_cell (hc k hlt))]; exact hc k hlt
      have c1 : wr.cell? ⟨w.heap.size + 1, k, none⟩ = some (.int .u8 0) := by rw [b1.cell, u8s_get _ (by omega)]; simp
      have c2 := b1.free k
      have hz := hxH.out k
      have hz0 := hz.1
      have hz1 := hz.2
      have hk64 : (k : Int) < 64 := by omega
      clear hc hz
      go_wp2_with fail
      go_roundw
      case rel =>
        refine ⟨k + 1, by omega, by go_num, b0.set_other _ _ (by simp), ?_, hb.setCell (by simp) _⟩
        refine (b1.set k _).cast ?_
        rw [u8s_set]; apply u8s_ext; intro j _
        by_cases e1 : j = k
        · subst e1; simp
        · by_cases e2 : j < k
          · simp [e1, e2, show j < k + 1 by omega]
          · simp [e1, e2, show ¬ j < k + 1 by omega]
      case measure => simp [intOf] <;> omega
    · obtain rfl : k = xs.length := by omega
      have b2 := b1.cast (u8s_ext (g := cf xs) fun j _ => by
        by_cases h : j < xs.length
        · rw [if_pos h]
        · rw [if_neg h, hzH.out j (by omega)])
      clear b1
      go_wp2_with (first | (refine wpl_load_arr rfl 33 _ rfl _ rfl _ _ b2 _ _ uPoly sPoly ?_) | (refine wpl_store_arr rfl 33 _ _ rfl _ rfl _ rfl _ _ b0 sPoly rfl (u8s_oneCell _ _) ?_))
      exact bodyPost_ret (res_c rfl rfl (b0.setRow_same (cs := u8s 64 (cf xs))) uPoly sPoly) rfl ⟨rfl, below_setRow hb (by omega) _⟩

/-- What told gives. -/
def toldF (xs : List Int) : Nat → Int := if xs.length ≤ 64 then cf xs else fun _ => 0
def toldC (xs : List Int) : Int := if xs.length ≤ 64 then 0 else 3
set_option maxHeartbeats 400000 in
theorem told_any (v : Value) (xs : List Int) (w : World) (h : IsRow w v xs) (hx : ∀ i, 0 ≤ cf xs i ∧ cf xs i ≤ 255) :
    Calls Try.prog 55 #[v] w fun e w' => e = .returned (.tuple #[.agg (u8s 64 (toldF xs)), .int .i64 (toldC xs)]) ∧ Below w.heap.size w w' := by
  have hb0 := below_new w (.cells (u8s 64 fun _ => 0) 33)
  have hB := Blk.new w (u8s 64 fun _ => 0) 33
  have hr := h.below hb0
  by_cases hL : xs.length ≤ 64
  · have hf := Lib.hid (fits_any v xs _ hr true (by simpa using hL))
    have hp := Lib.hid (poly_any v xs _ hr hx hL)
    have e1 : toldF xs = cf xs := if_pos hL
    have e2 : toldC xs = 0 := if_pos hL
    rw [e1, e2]
    clear h hr hx
    go_enter Try.func55, Try.ntmps55
    go_wp2_with (first | (refine wpl_alloc_arr rfl 33 rfl _ zPoly ?_))
    refine hf.out.mono ?_
    rintro e w1 ⟨rfl, rfl⟩
    go_wp2_with fail
    refine hp.out.mono ?_
    rintro e w1 ⟨rfl, hb1⟩
    have hB1 := hB.keep hb1
    have hb2 := below_step hb0 hb1
    go_wp2_with (refine wpl_store_arr rfl 33 _ _ rfl _ rfl _ rfl _ _ hB1 sPoly rfl (u8s_oneCell _ _) ?_)
    exact bodyPost_ret (res_ct rfl rfl (hB1.setRow_same (cs := u8s 64 (cf xs))) uPoly sPoly rfl) rfl ⟨rfl, below_setRow hb2 (by omega) _⟩
  · have hf := Lib.hid (fits_any v xs _ hr false (by simpa using hL))
    have e1 : toldF xs = fun _ => 0 := if_neg hL
    have e2 : toldC xs = 3 := if_neg hL
    rw [e1, e2]
    clear h hr hx
    go_enter Try.func55, Try.ntmps55
    go_wp2_with (first | (refine wpl_alloc_arr rfl 33 rfl _ zPoly ?_))
    refine hf.out.mono ?_
    rintro e w1 ⟨rfl, rfl⟩
    go_wp2_with (first | (refine wpl_build_zero rfl 33 64 5 rfl _ uPoly sByte zPoly ?_) | (refine wpl_store_arr rfl 33 _ _ rfl _ rfl _ rfl _ _ hB sPoly rfl (u8s_oneCell _ _) ?_))
    exact bodyPost_ret (res_ct rfl rfl (hB.setRow_same (cs := u8s 64 fun _ => 0)) uPoly sPoly rfl) rfl ⟨rfl, below_setRow hb0 (by omega) _⟩
end Go.Proofs.Ytnkkkgaojhkniaa

/- Walks: the greatest common divisor of rows with its factors. -/
namespace Go.Proofs.Ytnkkkgaojhkniaa
open Go.RowKit

theorem IsRow_one (w : World) (g : Nat) (x : Int) (h : w.cell? ⟨g, 0, none⟩ = some (.int .i64 x)) : IsRow w (.slice (some ⟨g, 0, none⟩) 1 1) [x] :=
  ⟨some ⟨g, 0, none⟩, 1, by simp, by simp, by unfold maxLen; omega, fun _ => ⟨g, 0, rfl, fun i hi => by
    have : i = 0 := by simpa using hi
    subst this; exact h⟩⟩
theorem bzl_stop (p : Int) (n : Nat) (a u x v y : List Int) : bzl p n a [] u x v y = (a, u, v) := by
  cases n with
  | zero => rfl
  | succ n => unfold bzl; rw [if_pos rfl]
theorem bzl_go {p : Int} {n : Nat} {a b u x v y : List Int} (h : b ≠ []) : bzl p (n + 1) a b u x v y = bzl p n b (divp p a b).2 x (addp p u (mulp p (divp p a b).1 x) (-1)) y (addp p v (mulp p (divp p a b).1 y) (-1)) := by
  rw [bzl]; rw [if_neg h]
def lenOf : Value → Nat
  | .slice _ n _ => n
  | _ => 0
theorem IsRow.lenOf {w : World} {v : Value} {xs : List Int} (h : IsRow w v xs) : lenOf v = xs.length := by
  obtain ⟨oa, ca, rfl, _, _, _⟩ := h; rfl
theorem mulp_length_le (p : Int) (a b : List Int) : (mulp p a b).length ≤ a.length + b.length := mkp_length _ _
/-- The state of the loop. -/
structure BzW (w : World) (va vb vu vx vv vy : Value) (a b u x v y : List Int) : Prop where
  a : IsRow w va a
  b : IsRow w vb b
  u : IsRow w vu u
  x : IsRow w vx x
  v : IsRow w vv v
  y : IsRow w vy y

end Go.Proofs.Ytnkkkgaojhkniaa

/- Walks: rests and powers of rows. -/
namespace Go.Proofs.Ytnkkkgaojhkniaa
open Go.RowKit

theorem and_one_i64 (j : Nat) (h : j ≤ 1000000000000) : bits BinOp.and IntKind.i64 (j : Int) 1 = ((j % 2 : Nat) : Int) := by
  have h1 : (BitVec.ofInt 64 (j : Int)).toNat = j := by
    rw [BitVec.ofInt_natCast, BitVec.toNat_ofNat]; exact Nat.mod_eq_of_lt (by omega)
  show IntKind.i64.wrap ((BitVec.ofInt 64 (j : Int) &&& BitVec.ofInt 64 ((1 : Nat) : Int)).toNat : Int) = _
  rw [BitVec.toNat_and, h1, show (BitVec.ofInt 64 ((1 : Nat) : Int)).toNat = 1 by decide, Nat.and_one_is_mod, IntKind.wrap_i64]
  omega
theorem shr_one (j : Nat) : Int.fdiv (j : Int) 2 = ((j / 2 : Nat) : Int) := by
  rw [Int.fdiv_eq_ediv_of_nonneg _ (by omega)]; omega

/-- The state of the loop. -/
structure PwS (w : World) (vo vb vm : Value) (p : Int) (ms : List Int) (R : List Int) (j : Nat) (o b : List Int) : Prop where
  ro : IsRow w vo o
  rb : IsRow w vb b
  rm : IsRow w vm ms
  po : Po p o
  pb : Po p b
  lo : o.length < ms.length
  lb : b.length < ms.length
  pm : Po p ms
  lm : ms.length ≤ 64
  ne : ms ≠ []
  pr : Pr p
  eq : pwl p ms j o b = R

end Go.Proofs.Ytnkkkgaojhkniaa

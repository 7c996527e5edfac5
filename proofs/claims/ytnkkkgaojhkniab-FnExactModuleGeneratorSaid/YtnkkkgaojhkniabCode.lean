/- Several texts in one: Facts, W1, W2, W3, W4, W5, W6, W7. -/
import Derived.Test.YtnkkkgaojhkniabProg
import Derived.Test.YtnkkkgaojhkniabBase
import Derived.KernelRfl
import Derived.BigQuiet
import Derived.Deep.QuietTactic
set_option linter.unusedVariables false
set_option linter.unusedSimpArgs false
/- Closed facts of the program: types. -/
namespace Go.Proofs.Ytnkkkgaojhkniab
open Go.RowKit
theorem zPoly : (Try.prog.info? 25).bind (·.zero) = some (.agg (u8s 64 fun _ => 0)) := by kernel_rfl
theorem sPoly : (Try.prog.info? 25).map (·.size) = some 64 := by kernel_rfl
theorem sArr64 : (Try.prog.info? 24).map (·.size) = some 64 := by kernel_rfl
theorem sByte : (Try.prog.info? 5).map (·.size) = some 1 := by kernel_rfl
theorem gPoly : Try.prog.eqGuardType Try.prog.depth 25 = false := by kernel_rfl
theorem uPoly : Try.prog.underlying 25 = some (.array 64 5) := by kernel_rfl
theorem uArr64 : Try.prog.underlying 24 = some (.array 64 5) := by kernel_rfl
theorem uByte : Try.prog.underlying 5 = some (.int .u8) := by kernel_rfl
end Go.Proofs.Ytnkkkgaojhkniab

/- Walks: laws.toPoly. -/
namespace Go.Proofs.Ytnkkkgaojhkniab
open Go.RowKit
end Go.Proofs.Ytnkkkgaojhkniab

/- Walks: primes, ranges, polynomials' checks. -/
namespace Go.Proofs.Ytnkkkgaojhkniab
open Go.RowKit

theorem not_pr {p : Int} (h : ¬ Pr p) : (p == 2) = false ∧ (p == 3) = false ∧ (p == 5) = false ∧ (p == 7) = false := by
  unfold Pr at h
  refine ⟨?_, ?_, ?_, ?_⟩ <;> (rw [beq_eq_false_iff_ne]; omega)

set_option maxHeartbeats 400000 in
theorem isPrime_any (p : Int) (w : World) (b : Bool) (hb : decide (Pr p) = b) : Calls Try.prog 56 #[.int .i64 p] w fun e w' => e = .returned (.bool b) ∧ w = w' := by
  by_cases hp : Pr p
  · rw [decide_eq_true hp] at hb; subst hb
    rcases hp with rfl | rfl | rfl | rfl
    all_goals
      go_enter Try.func56, Try.ntmps56
      go_wp2
      go_ret
      exact ⟨rfl, rfl⟩
  · rw [decide_eq_false hp] at hb; subst hb
    obtain ⟨h2, h3, h5, h7⟩ := not_pr hp
    clear hp
    go_enter Try.func56, Try.ntmps56
    go_wp2
    go_ret
    exact ⟨rfl, rfl⟩

set_option maxHeartbeats 400000 in
theorem l01Prime_any (p : Int) (w : World) (b : Bool) (hb : decide (Pr p) = b) : Calls Try.prog 50 #[.int .i64 p] w fun e w' => e = .returned (.bool b) ∧ w = w' := by
  by_cases hp : Pr p
  · rw [decide_eq_true hp] at hb; subst hb
    rcases hp with rfl | rfl | rfl | rfl
    all_goals
      go_enter Try.func50, Try.ntmps50
      go_wp2
      go_ret
      exact ⟨rfl, rfl⟩
  · rw [decide_eq_false hp] at hb; subst hb
    obtain ⟨h2, h3, h5, h7⟩ := not_pr hp
    clear hp
    go_enter Try.func50, Try.ntmps50
    go_wp2
    go_ret
    exact ⟨rfl, rfl⟩

set_option maxHeartbeats 400000 in
theorem within_any (n lo hi : Int) (w : World) (b : Bool) (hb : decide (lo ≤ n ∧ n ≤ hi) = b) : Calls Try.prog 57 #[.int .i64 n, .int .i64 lo, .int .i64 hi] w fun e w' => e = .returned (.bool b) ∧ w = w' := by
  by_cases h1 : lo ≤ n
  · by_cases h2 : n ≤ hi
    · rw [decide_eq_true ⟨h1, h2⟩] at hb; subst hb
      go_enter Try.func57, Try.ntmps57
      go_wp2
      go_ret
      exact ⟨rfl, rfl⟩
    · rw [decide_eq_false (fun h => h2 h.2)] at hb; subst hb
      go_enter Try.func57, Try.ntmps57
      go_wp2
      go_ret
      exact ⟨rfl, rfl⟩
  · rw [decide_eq_false (fun h => h1 h.1)] at hb; subst hb
    have h3 : decide (lo ≤ n) = false := by simpa using h1
    go_enter Try.func57, Try.ntmps57
    go_wp2
    go_ret
    exact ⟨rfl, rfl⟩

set_option maxHeartbeats 400000 in
theorem l01In_any (n lo hi : Int) (w : World) (b : Bool) (hb : decide (lo ≤ n ∧ n ≤ hi) = b) : Calls Try.prog 51 #[.int .i64 n, .int .i64 lo, .int .i64 hi] w fun e w' => e = .returned (.bool b) ∧ w = w' := by
  by_cases h1 : lo ≤ n
  · by_cases h2 : n ≤ hi
    · rw [decide_eq_true ⟨h1, h2⟩] at hb; subst hb
      go_enter Try.func51, Try.ntmps51
      go_wp2
      go_ret
      exact ⟨rfl, rfl⟩
    · rw [decide_eq_false (fun h => h2 h.2)] at hb; subst hb
      go_enter Try.func51, Try.ntmps51
      go_wp2
      go_ret
      exact ⟨rfl, rfl⟩
  · rw [decide_eq_false (fun h => h1 h.1)] at hb; subst hb
    have h3 : decide (lo ≤ n) = false := by simpa using h1
    go_enter Try.func51, Try.ntmps51
    go_wp2
    go_ret
    exact ⟨rfl, rfl⟩
end Go.Proofs.Ytnkkkgaojhkniab

/- Walks: isPoly and what it calls; the reference's l01Is. -/
namespace Go.Proofs.Ytnkkkgaojhkniab
open Go.RowKit

/-- The answer of IndexFunc when all are good, or when one is not. -/
def IdxPost (good : Prop) (w : World) (e : Ending) (w' : World) : Prop := ∃ r : Int, e = .returned (.int .i64 r) ∧ (good → r = -1) ∧ (¬ good → 0 ≤ r) ∧ w = w'

/-- A polynomial's check as the reference has it. -/
theorem l01Is_dec (f : Nat → Int) (p : Int) (b : Bool) (hb : decide ((∀ i : Nat, i < 64 → f i < p) ∧ Pr p) = b) :
    (∀ i : Nat, i < 64 → f i < p) → decide (Pr p) = b := by
  intro h; rw [← hb]; exact decide_eq_decide.2 ⟨fun h1 => ⟨h, h1⟩, fun h1 => h1.2⟩

end Go.Proofs.Ytnkkkgaojhkniab

/- Walks: the codes for lists of polynomials. -/
namespace Go.Proofs.Ytnkkkgaojhkniab
open Go.RowKit

/-- n cells from an address on (nothing is said of no cells). -/
def CellsAt (w : World) (oa : Option Addr) (n : Nat) (f : Nat → Value) : Prop :=
  0 < n → ∃ g o, oa = some ⟨g, o, none⟩ ∧ ∀ j, j < n → w.cell? ⟨g, o + j, none⟩ = some (f j)
theorem CellsAt.below {w w' : World} {oa : Option Addr} {n : Nat} {f : Nat → Value} (h : CellsAt w oa n f) (hb : Below w.heap.size w w') : CellsAt w' oa n f := fun hn => by
  obtain ⟨g, o, h1, h2⟩ := h hn
  refine ⟨g, o, h1, fun j hj => ?_⟩
  rw [hb.cell (block_lt_of_cell (h2 j hj))]
  exact h2 j hj
theorem CellsAt.ext {w : World} {oa : Option Addr} {n : Nat} {f g : Nat → Value} (h : CellsAt w oa n f) (e : ∀ i, i < n → f i = g i) : CellsAt w oa n g := fun hn => by
  obtain ⟨b, o, h1, h2⟩ := h hn
  exact ⟨b, o, h1, fun j hj => by rw [← e j hj]; exact h2 j hj⟩
theorem cell_below {w w' : World} {x : Addr} {v : Value} (h : w.cell? x = some v) (hb : Below w.heap.size w w') : w'.cell? x = some v := by
  rw [hb.cell (block_lt_of_cell h)]; exact h
theorem CellsAt.blk {w : World} {g : Nat} {n : Nat} {f : Nat → Value} {T : TypeId} (h : Blk w g (arr n f) T) : CellsAt w (some ⟨g, 0, none⟩) n f := fun _ =>
  ⟨g, 0, rfl, fun j hj => by rw [h.cell, Nat.zero_add, arr_get_lt _ hj]⟩

/-- All cells of n polynomials are numbers modulo p. -/
def AllP (n : Nat) (F : Nat → Int) (p : Int) : Prop := ∀ j, j < n * 64 → F j < p
theorem AllP_iff (n : Nat) (F : Nat → Int) (p : Int) : AllP n F p ↔ ∀ i, i < n → ∀ q, q < 64 → F (i * 64 + q) < p := by
  constructor
  · intro h i hi q hq; exact h _ (by omega)
  · intro h j hj
    have := h (j / 64) (by omega) (j % 64) (by omega)
    rwa [show j / 64 * 64 + j % 64 = j by omega] at this

def IdxPostB (good : Prop) (w : World) (e : Ending) (w' : World) : Prop := ∃ r : Int, e = .returned (.int .i64 r) ∧ (good → r = -1) ∧ (¬ good → 0 ≤ r) ∧ Below w.heap.size w w'

/-- The code of a list of polynomials: 0 if all is well, 1 (ErrInvalid) otherwise. -/
def codeOf (b : Bool) : Int := if b then 0 else 1

end Go.Proofs.Ytnkkkgaojhkniab

/- Walks: rows of coefficients: trimmed, degree, lead, at, reduce; the reference's degree. -/
namespace Go.Proofs.Ytnkkkgaojhkniab
open Go.RowKit

theorem ret_int {k : IntKind} {a b : Int} (h : a = b) : Ending.returned (.int k a) = .returned (.int k b) := by rw [h]

set_option maxHeartbeats 400000 in
theorem degree_any (v : Value) (xs : List Int) (w : World) (h : IsRow w v xs) :
    Calls Try.prog 47 #[v] w fun e w' => e = .returned (.int .i64 ((xs.length : Int) - 1)) ∧ w = w' := by
  obtain ⟨oa, cap, rfl, hle, hcap, _⟩ := h
  unfold maxLen at hcap
  go_enter Try.func47, Try.ntmps47
  go_wp2
  go_ret
  exact ⟨rfl, rfl⟩

set_option maxHeartbeats 400000 in
theorem lead_any (v : Value) (xs : List Int) (w : World) (h : IsRow w v xs) :
    Calls Try.prog 68 #[v] w fun e w' => e = .returned (.int .i64 (cf xs (xs.length - 1))) ∧ w = w' := by
  obtain ⟨oa, cap, rfl, hle, hcap, hcell⟩ := h
  unfold maxLen at hcap
  by_cases hl : xs.length = 0
  · have e0 : cf xs (xs.length - 1) = 0 := cf_ge _ _ (by omega)
    rw [e0]
    rw [hl] at *
    go_enter Try.func68, Try.ntmps68
    go_wp2
    go_ret
    exact ⟨rfl, rfl⟩
  · obtain ⟨b, off, rfl, hc⟩ := hcell (by omega)
    have c0 := hc (xs.length - 1) (by omega)
    obtain ⟨m, hm⟩ : ∃ m, xs.length = m + 1 := ⟨xs.length - 1, by omega⟩
    generalize hx : cf xs (xs.length - 1) = x at *
    clear hc hcell hx
    generalize xs.length = L at *
    subst hm
    simp only [Nat.add_sub_cancel] at c0
    go_enter Try.func68, Try.ntmps68
    go_wp2
    go_ret
    exact ⟨rfl, rfl⟩

set_option maxHeartbeats 400000 in
theorem at_any (v : Value) (xs : List Int) (i : Nat) (w : World) (h : IsRow w v xs) (hi : i ≤ 1000000000000) :
    Calls Try.prog 60 #[v, .int .i64 i] w fun e w' => e = .returned (.int .i64 (cf xs i)) ∧ w = w' := by
  obtain ⟨oa, cap, rfl, hle, hcap, hcell⟩ := h
  unfold maxLen at hcap
  by_cases hl : i < xs.length
  · obtain ⟨b, off, rfl, hc⟩ := hcell (by omega)
    have c0 := hc i hl
    clear hc hcell
    go_enter Try.func60, Try.ntmps60
    go_wp2
    go_ret
    exact ⟨rfl, rfl⟩
  · have e0 : cf xs i = 0 := cf_ge _ _ (by omega)
    rw [e0]
    clear e0 hcell
    go_enter Try.func60, Try.ntmps60
    go_wp2
    go_ret
    exact ⟨rfl, rfl⟩

theorem tmod_reduce (p n : Int) (hp : 0 < p) : ((n.tmod p) + p) % p = n % p := by
  have h1 : n.tmod p = n - p * (n.tdiv p) := by have := Int.mul_tdiv_add_tmod n p; omega
  rw [h1, show n - p * n.tdiv p + p = n + p * (1 - n.tdiv p) by rw [Int.mul_sub, Int.mul_one]; omega, Int.add_mul_emod_self_left]
theorem tmod_range (p n : Int) (hp : 0 < p) : -p < n.tmod p ∧ n.tmod p < p := by
  constructor
  · have := Int.lt_tmod_of_pos n hp; omega
  · exact Int.tmod_lt_of_pos n hp

set_option maxHeartbeats 400000 in
theorem reduce_any (p n : Int) (w : World) (hp : Pr p) (h1 : -1000000000000000 ≤ n) (h2 : n ≤ 1000000000000000) :
    Calls Try.prog 86 #[.int .i64 p, .int .i64 n] w fun e w' => e = .returned (.int .i64 (n % p)) ∧ w = w' := by
  have hp1 := hp.pos.1
  have hp2 := hp.pos.2
  have ht := tmod_range p n (by omega)
  have ht1 := ht.1
  have ht2 := ht.2
  have hr := tmod_reduce p n (by omega)
  have hrH := Lib.hid hr
  have hpz : (p == 0) = false := by rw [beq_eq_false_iff_ne]; omega
  clear hr hp ht
  go_enter Try.func86, Try.ntmps86
  go_wp2
  go_ret
  exact ⟨ret_int hrH.out, rfl⟩

theorem mkp_len_eq {n k : Nat} {f : Nat → Int} (hk : k ≤ n) (hz : ∀ i, k ≤ i → i < n → f i = 0) (hl : k = 0 ∨ f (k - 1) ≠ 0) : (mkp n f).length = k := by
  have h1 : (mkp n f).length ≤ k := Tr_length_le (mkp_Tr n f) fun i hi => by
    rw [mkp_cf]; split
    · exact hz i hi ‹_›
    · rfl
  rcases hl with h | h
  · omega
  · by_cases hlt : (mkp n f).length ≤ k - 1
    · by_cases h0 : k = 0
      · omega
      · have := cf_ge (mkp n f) (k - 1) hlt
        rw [mkp_cf, if_pos (by omega)] at this
        exact absurd this h
    · omega

set_option maxHeartbeats 400000 in
theorem l01Deg_any (f : Nat → Int) (w : World) (hf : ∀ i, i < 64 → 0 ≤ f i ∧ f i ≤ 255) :
    Calls Try.prog 42 #[.agg (u8s 64 f)] w fun e w' => e = .returned (.int .i64 (((mkp 64 f).length : Int) - 1)) ∧ Below w.heap.size w w' := by
  have hfH := Lib.hid hf; clear hf
  go_enter Try.func42, Try.ntmps42
  go_wp2_with fail
  have hB : Blk (w.alloc (.cells (u8s 64 f) 25)) w.heap.size (u8s 64 f) 25 := Blk.new w _ _
  go_loop [3] (fun i => ∃ k : Nat, k ≤ 64 ∧ i = .int .i64 ((k : Int) - 1) ∧ ∀ j, k ≤ j → j < 64 → f j = 0) (fun i => (intOf i + 1).toNat)
  case atStart => exact ⟨64, by omega, rfl, fun j hj => by omega⟩
  case round =>
    obtain ⟨k, hk, hi, hall⟩ := hrel
    have hallH := Lib.hid hall; clear hall
    by_cases h0 : k = 0
    · subst h0
      have hfin := Lib.hid (mkp_len_eq (n := 64) (k := 0) (f := f) (by omega) hallH.out (Or.inl rfl))
      simp only [Int.natCast_zero, Int.zero_sub] at hi
      subst hi
      go_wp2_with fail
      go_ret
      exact ⟨by rw [hfin.out]; rfl, below_new _ _⟩
    · obtain ⟨m, rfl⟩ : ∃ m, k = m + 1 := ⟨k - 1, by omega⟩
      rw [show (((m + 1 : Nat) : Int) - 1) = (m : Int) by omega] at hi
      subst hi
      have c0 : (w.alloc (.cells (u8s 64 f) 25)).cell? ⟨w.heap.size, m, none⟩ = some (.int .u8 (f m)) := by rw [hB.cell, u8s_get _ (by omega)]
      have hr1 := (hfH.out m (by omega)).1
      have hr2 := (hfH.out m (by omega)).2
      by_cases hz : f m = 0
      · have hzb : (f m == 0) = true := by simpa using hz
        have hzH := Lib.hid hz; clear hz
        go_wp2_with fail
        go_round
        case rel => exact ⟨m, by omega, by go_num, fun j h1 h2 => by
          by_cases e1 : j = m
          · subst e1; exact hzH.out
          · exact hallH.out j (by omega) h2⟩
        case measure => simp [intOf] <;> omega
      · have hzb : (f m == 0) = false := by simpa using hz
        have hfin := Lib.hid (mkp_len_eq (n := 64) (k := m + 1) (f := f) (by omega) hallH.out (Or.inr (by simpa using hz)))
        clear hz
        go_wp2_with fail
        go_ret
        exact ⟨ret_int (by rw [hfin.out]; omega), below_new _ _⟩

theorem trim_len_take (xs : List Int) (k : Nat) (hk : k ≤ xs.length) (hz : ∀ i, k ≤ i → cf xs i = 0) (hl : k = 0 ∨ cf xs (k - 1) ≠ 0) : trim xs = xs.take k := trim_eq_take xs k hk hz hl

/-- A part of a row from its begin on. -/
theorem IsRow_cut {w : World} {oa : Option Addr} {xs : List Int} {k cap : Nat} (hk : k ≤ xs.length) (hcap : k ≤ cap) (hm : cap ≤ maxLen)
    (h : 0 < xs.length → ∃ b off, oa = some ⟨b, off, none⟩ ∧ ∀ i, i < xs.length → w.cell? ⟨b, off + i, none⟩ = some (.int .i64 (cf xs i))) :
    IsRow w (.slice oa k cap) (xs.take k) := by
  have hlen : (xs.take k).length = k := by simp; omega
  refine ⟨oa, cap, by rw [hlen], by omega, hm, fun h0 => ?_⟩
  obtain ⟨b, off, h1, h2⟩ := h (by omega)
  refine ⟨b, off, h1, fun i hi => ?_⟩
  rw [h2 i (by omega), cf_take, if_pos (by omega)]

set_option maxHeartbeats 400000 in
theorem trimmed_any (v : Value) (xs : List Int) (w : World) (h : IsRow w v xs) :
    Calls Try.prog 46 #[v] w fun e w' => ∃ v', e = .returned v' ∧ IsRow w v' (trim xs) ∧ w = w' := by
  obtain ⟨oa, cap, rfl, hle, hcap, hcell⟩ := h
  have hcellH := Lib.hid hcell
  have hcapH := Lib.hid hcap
  unfold maxLen at hcap
  have hcap2 : xs.length ≤ 9223372036854775807 := by omega
  clear hcell hcap
  generalize hL : xs.length = L at *
  have hLH := Lib.hid hL
  clear hL
  go_enter Try.func46, Try.ntmps46
  go_wp2_with fail
  go_loop [3] (fun i => ∃ k : Nat, k ≤ L ∧ i = .int .i64 (k : Int) ∧ ∀ j, k ≤ j → cf xs j = 0) (fun i => (intOf i).toNat)
  case atStart => exact ⟨L, Nat.le_refl _, rfl, fun j hj => cf_ge _ _ (by rw [hLH.out]; exact hj)⟩
  case round =>
    obtain ⟨k, hk, hi, hall⟩ := hrel
    have hallH := Lib.hid hall; clear hall
    by_cases h0 : k = 0
    · subst h0
      simp only [Int.natCast_zero] at hi
      subst hi
      go_wp2_with fail
      go_ret
      have hfin := trim_len_take xs 0 (by omega) hallH.out (Or.inl rfl)
      rw [hfin]
      exact ⟨_, rfl, IsRow_cut (by omega) (Nat.le_refl _) (by unfold maxLen; omega) (by rw [hLH.out]; exact hcellH.out), rfl⟩
    · obtain ⟨m, rfl⟩ : ∃ m, k = m + 1 := ⟨k - 1, by omega⟩
      subst hi
      obtain ⟨b, off, rfl, hc⟩ := hcellH.out (by omega)
      have c0 := hc m (by omega)
      clear hc
      by_cases hz : cf xs m = 0
      · have hzb : (cf xs m == 0) = true := by simpa using hz
        have hzH := Lib.hid hz; clear hz
        go_wp2_with fail
        go_round
        case rel => exact ⟨m, by omega, by go_num, fun j h1 => by
          by_cases e1 : j = m
          · subst e1; exact hzH.out
          · exact hallH.out j (by omega)⟩
        case measure => simp [intOf] <;> omega
      · have hzb : (cf xs m == 0) = false := by simpa using hz
        have hfin := Lib.hid (trim_len_take xs (m + 1) (by rw [hLH.out]; omega) hallH.out (Or.inr (by simpa using hz)))
        clear hz
        go_wp2_with fail
        go_ret
        rw [hfin.out]
        refine ⟨_, rfl, ?_, rfl⟩
        have h3 := IsRow_cut (w := w) (oa := some ⟨b, off, none⟩) (xs := xs) (k := m + 1) (cap := m + 1) (by rw [hLH.out]; omega) (Nat.le_refl _) (by unfold maxLen; omega) (by rw [hLH.out]; exact hcellH.out)
        simpa using h3
end Go.Proofs.Ytnkkkgaojhkniab

/- Walks: rowOf, eqPoly. -/
namespace Go.Proofs.Ytnkkkgaojhkniab
open Go.RowKit

theorem iInt : (Try.prog.info? 2).map (fun i => (i.zero, i.size, i.bytes)) = some (some (.int .i64 0), 1, 8) := by kernel_rfl

/-- An owned row of numbers reads as a row. -/
theorem IsRow_owned {w : World} {base e n : Nat} {v : Value} {f : Nat → Int} (h : w.ownsRow base e 1 v n ((List.range n).map fun j => .int .i64 (f j))) : IsRow w v ((List.range n).map f) := by
  have hlen : ((List.range n).map f).length = n := by simp
  rcases h with ⟨_, ⟨rfl, rfl⟩ | ⟨g, cap, cur, rfl, hg, hb, h1, h2, h3, h4⟩⟩
  · exact IsRow_nil w
  · refine ⟨_, cap, by rw [hlen], by omega, h2, fun h0 => ⟨g, 0, rfl, fun i hi => ?_⟩⟩
    rw [hlen] at hi
    rw [cell_of_row w g (0 + i) cur e _ hb, Nat.zero_add]
    have h5 : (cur.toList.take (n * 1))[i]? = some (.int .i64 (f i)) := by
      rw [h4, List.getElem?_map, List.getElem?_range hi]; rfl
    rw [List.getElem?_take, if_pos (by omega)] at h5
    rw [cf_map_range, if_pos hi]
    simpa using h5

set_option maxHeartbeats 400000 in
theorem eqPoly_same (f : Nat → Int) (w : World) :
    Calls Try.prog 12 #[.agg (u8s 64 f), .agg (u8s 64 f)] w fun e w' => e = .returned (.bool true) ∧ Below w.heap.size w w' := by
  have hb0 : Below w.heap.size w ((w.alloc (.cells (u8s 64 f) 25)).alloc (.cells (u8s 64 f) 25)) := (below_new w _).alloc (by simp) _
  have hB1 : Blk ((w.alloc (.cells (u8s 64 f) 25)).alloc (.cells (u8s 64 f) 25)) w.heap.size (u8s 64 f) 25 := (Blk.new w _ _).alloc _
  have hB2 : Blk ((w.alloc (.cells (u8s 64 f) 25)).alloc (.cells (u8s 64 f) 25)) (w.heap.size + 1) (u8s 64 f) 25 := by
    have := Blk.new (w.alloc (.cells (u8s 64 f) 25)) (u8s 64 f) 25; simpa using this
  go_enter Try.func12, Try.ntmps12
  go_wp2_with fail
  go_loopw [5] (fun i wr => ∃ k : Nat, k ≤ 64 ∧ i = .int .i64 k ∧ Blk wr w.heap.size (u8s 64 f) 25 ∧ Blk wr (w.heap.size + 1) (u8s 64 f) 25 ∧ Below w.heap.size w wr) (fun i _ => 64 - (intOf i).toNat)
  case atStart => exact ⟨0, by omega, rfl, hB1, hB2, hb0⟩
  case round =>
    obtain ⟨k, hk, rfl, b1, b2, hb⟩ := hrel
    by_cases hlt : k < 64
    · have c0 : wr.cell? ⟨w.heap.size, k, none⟩ = some (.int .u8 (f k)) := by rw [b1.cell, u8s_get _ hlt]
      have c1 : wr.cell? ⟨w.heap.size + 1, k, none⟩ = some (.int .u8 (f k)) := by rw [b2.cell, u8s_get _ hlt]
      have hi0 : (0 : Int) ≤ (k : Int) := by omega
      have hi1 : (k : Int) < 64 := by omega
      clear hB1 hB2 hb0
      go_wp2_with fail
      go_quiet (fail)
      go_wp2
      go_roundw
      case rel => exact ⟨k + 1, by omega, by go_num, b1, b2, ⟨hb.os, hb.tape, hb.output, hb.size, hb.block⟩⟩
      case measure => simp [intOf] <;> omega
    · obtain rfl : k = 64 := by omega
      go_wp2_with fail
      go_ret
      exact ⟨rfl, hb⟩
end Go.Proofs.Ytnkkkgaojhkniab

/- Walks: the codes of lists that a call writes out; DegreeOf on both sides. -/
namespace Go.Proofs.Ytnkkkgaojhkniab
open Go.RowKit

/-- All coefficients of all polynomials are numbers modulo p, and p is a prime. -/
def Good (p : Int) (fs : List (Nat → Int)) : Prop := Pr p ∧ ∀ f ∈ fs, ∀ i, i < 64 → f i < p
/-- Bytes. -/
def By (f : Nat → Int) : Prop := ∀ i, 0 ≤ f i ∧ f i ≤ 255

theorem polysF_in (fs : List (Nat → Int)) (hf : ∀ f ∈ fs, By f) (j : Nat) : 0 ≤ polysF fs j ∧ polysF fs j ≤ 255 := by
  unfold polysF
  by_cases h : j / 64 < fs.length
  · rw [List.getD_eq_getElem?_getD, List.getElem?_eq_getElem h]
    exact hf _ (List.getElem_mem h) _
  · rw [List.getD_eq_getElem?_getD, List.getElem?_eq_none (by omega)]
    show (0 : Int) ≤ 0 ∧ (0 : Int) ≤ 255
    omega
theorem AllP_polysF (p : Int) (fs : List (Nat → Int)) : AllP fs.length (polysF fs) p ↔ ∀ f ∈ fs, ∀ i, i < 64 → f i < p := by
  rw [AllP_iff]
  have e : ∀ i (hi : i < fs.length) q, q < 64 → polysF fs (i * 64 + q) = fs[i] q := by
    intro i hi q hq
    unfold polysF
    rw [show (i * 64 + q) / 64 = i by omega, show (i * 64 + q) % 64 = q by omega, List.getD_eq_getElem?_getD, List.getElem?_eq_getElem hi]; rfl
  constructor
  · intro h f hf q hq
    obtain ⟨i, hi, rfl⟩ := List.mem_iff_getElem.1 hf
    rw [← e i hi q hq]; exact h i hi q hq
  · intro h i hi q hq
    rw [e i hi q hq]; exact h _ (List.getElem_mem hi) q hq

theorem By.on {f : Nat → Int} (h : By f) : ∀ i, i < 64 → 0 ≤ f i ∧ f i ≤ 255 := fun i _ => h i
theorem by1 {f : Nat → Int} (h : By f) : ∀ g ∈ [f], By g := by intro g hg; rw [List.mem_singleton] at hg; subst hg; exact h

end Go.Proofs.Ytnkkkgaojhkniab

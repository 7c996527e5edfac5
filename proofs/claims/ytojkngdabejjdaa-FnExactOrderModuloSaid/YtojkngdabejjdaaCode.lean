/- Several texts in one: Facts, W1, W2, W3, W4, W5, W6, W7. -/
import Derived.Test.YtojkngdabejjdaaProg
import Derived.Test.YtojkngdabejjdaaBase
import Derived.KernelRfl
import Derived.BigQuiet
import Derived.Deep.QuietTactic
set_option linter.unusedVariables false
set_option linter.unusedSimpArgs false
/- Closed facts of the program: types. -/
namespace Go.Proofs.Ytojkngdabejjdaa
open Go.RowKit
theorem zPoly : (Try.prog.info? 25).bind (·.zero) = some (.agg (u8s 64 fun _ => 0)) := by kernel_rfl
theorem sPoly : (Try.prog.info? 25).map (·.size) = some 64 := by kernel_rfl
theorem sArr64 : (Try.prog.info? 22).map (·.size) = some 64 := by kernel_rfl
theorem sByte : (Try.prog.info? 5).map (·.size) = some 1 := by kernel_rfl
theorem gPoly : Try.prog.eqGuardType Try.prog.depth 25 = false := by kernel_rfl
theorem uPoly : Try.prog.underlying 25 = some (.array 64 5) := by kernel_rfl
theorem uArr64 : Try.prog.underlying 22 = some (.array 64 5) := by kernel_rfl
theorem uByte : Try.prog.underlying 5 = some (.int .u8) := by kernel_rfl
end Go.Proofs.Ytojkngdabejjdaa

/- Walks: laws.toPoly. -/
namespace Go.Proofs.Ytojkngdabejjdaa
open Go.RowKit
set_option maxHeartbeats 400000 in
theorem toPoly_any (f : Nat → Int) (w : World) : Calls Try.prog 5 #[.agg (u8s 64 f)] w fun e w' => e = .returned (.agg (u8s 64 f)) ∧ Below w.heap.size w w' := by
  go_enter Try.func5, Try.ntmps5
  go_wp2_with (refine wpl_alloc_arr rfl _ rfl _ zPoly ?_)
  go_loopw [4] (fun i wr => ∃ k : Nat, k ≤ 64 ∧ i = .int .i64 k ∧ Blk wr w.heap.size (u8s 64 f) 22 ∧ Blk wr (w.heap.size + 1) (u8s 64 fun _ => 0) 25 ∧
    Blk wr (w.heap.size + 1 + 1) (u8s 64 fun j => if j < k then f j else 0) 25 ∧ Below w.heap.size w wr) (fun i _ => 64 - (intOf i).toNat)
  case atStart =>
    refine ⟨0, by omega, rfl, ?_, ?_, ?_, ?_⟩
    · exact ((Blk.new w _ _).alloc _).alloc _
    · have := (Blk.new (w.alloc (Obj.cells (u8s 64 f) 22)) (u8s 64 fun _ => 0) 25).alloc (Obj.cells (u8s 64 fun x => 0) 25)
      simpa using this
    · have := Blk.new ((w.alloc (Obj.cells (u8s 64 f) 22)).alloc (Obj.cells (u8s 64 fun x => 0) 25)) (u8s 64 fun _ => 0) 25
      simpa using this
    · exact (((Below.refl _ _).alloc (Nat.le_refl _) _).alloc (by simp) _).alloc (by simp; omega) _
  case round =>
    obtain ⟨k, hk, rfl, b0, b1, b2, hb⟩ := hrel
    by_cases hlt : k < 64
    · have c0 : wr.cell? ⟨w.heap.size, k, none⟩ = some (.int .u8 (f k)) := by rw [b0.cell, u8s_get _ hlt]
      have c1 : wr.cell? ⟨w.heap.size + 1 + 1, k, none⟩ = some (.int .u8 0) := by rw [b2.cell, u8s_get _ hlt]; simp
      have c2 := b2.free k
      go_wp2_with (fail)
      go_roundw
      case rel =>
        refine ⟨k + 1, by omega, by go_num, b0.set_other _ _ (by simp; omega), b1.set_other _ _ (by simp), ?_, hb.setCell (by simp; omega) _⟩
        refine (b2.set k _).cast ?_
        rw [u8s_set]; apply u8s_ext; intro j _
        by_cases e1 : j = k
        · subst e1; simp
        · by_cases e2 : j < k
          · simp [e1, e2, show j < k + 1 by omega]
          · simp [e1, e2, show ¬ j < k + 1 by omega]
      case measure => simp [intOf]; omega
    · obtain rfl : k = 64 := by omega
      go_wp2_with (first | (refine wpl_load_arr rfl _ _ rfl _ rfl _ _ b2 _ _ uPoly sPoly ?_) | (refine wpl_store_arr rfl _ _ _ rfl _ rfl _ rfl _ _ b1 sPoly rfl (u8s_oneCell _ _) ?_))
      refine bodyPost_ret (results_cell_row rfl _ _ _ _ _ _ _ rfl (b1.setRow_same) uPoly rfl sPoly) rfl ⟨?_, below_setRow hb (by omega) _⟩
      rw [u8s_ext (fun j hj => if_pos hj)]
end Go.Proofs.Ytojkngdabejjdaa

/- Walks: primes, ranges, polynomials' checks. -/
namespace Go.Proofs.Ytojkngdabejjdaa
open Go.RowKit

theorem not_pr {p : Int} (h : ¬ Pr p) : (p == 2) = false ∧ (p == 3) = false ∧ (p == 5) = false ∧ (p == 7) = false := by
  unfold Pr at h
  refine ⟨?_, ?_, ?_, ?_⟩ <;> (rw [beq_eq_false_iff_ne]; omega)

set_option maxHeartbeats 400000 in
theorem isPrime_any (p : Int) (w : World) (b : Bool) (hb : decide (Pr p) = b) : Calls Try.prog 36 #[.int .i64 p] w fun e w' => e = .returned (.bool b) ∧ w = w' := by
  by_cases hp : Pr p
  · rw [decide_eq_true hp] at hb; subst hb
    rcases hp with rfl | rfl | rfl | rfl
    all_goals
      go_enter Try.func36, Try.ntmps36
      go_wp2
      go_ret
      exact ⟨rfl, rfl⟩
  · rw [decide_eq_false hp] at hb; subst hb
    obtain ⟨h2, h3, h5, h7⟩ := not_pr hp
    clear hp
    go_enter Try.func36, Try.ntmps36
    go_wp2
    go_ret
    exact ⟨rfl, rfl⟩

set_option maxHeartbeats 400000 in
theorem l01Prime_any (p : Int) (w : World) (b : Bool) (hb : decide (Pr p) = b) : Calls Try.prog 29 #[.int .i64 p] w fun e w' => e = .returned (.bool b) ∧ w = w' := by
  by_cases hp : Pr p
  · rw [decide_eq_true hp] at hb; subst hb
    rcases hp with rfl | rfl | rfl | rfl
    all_goals
      go_enter Try.func29, Try.ntmps29
      go_wp2
      go_ret
      exact ⟨rfl, rfl⟩
  · rw [decide_eq_false hp] at hb; subst hb
    obtain ⟨h2, h3, h5, h7⟩ := not_pr hp
    clear hp
    go_enter Try.func29, Try.ntmps29
    go_wp2
    go_ret
    exact ⟨rfl, rfl⟩

set_option maxHeartbeats 400000 in
theorem within_any (n lo hi : Int) (w : World) (b : Bool) (hb : decide (lo ≤ n ∧ n ≤ hi) = b) : Calls Try.prog 41 #[.int .i64 n, .int .i64 lo, .int .i64 hi] w fun e w' => e = .returned (.bool b) ∧ w = w' := by
  by_cases h1 : lo ≤ n
  · by_cases h2 : n ≤ hi
    · rw [decide_eq_true ⟨h1, h2⟩] at hb; subst hb
      go_enter Try.func41, Try.ntmps41
      go_wp2
      go_ret
      exact ⟨rfl, rfl⟩
    · rw [decide_eq_false (fun h => h2 h.2)] at hb; subst hb
      go_enter Try.func41, Try.ntmps41
      go_wp2
      go_ret
      exact ⟨rfl, rfl⟩
  · rw [decide_eq_false (fun h => h1 h.1)] at hb; subst hb
    have h3 : decide (lo ≤ n) = false := by simpa using h1
    go_enter Try.func41, Try.ntmps41
    go_wp2
    go_ret
    exact ⟨rfl, rfl⟩

set_option maxHeartbeats 400000 in
theorem l01In_any (n lo hi : Int) (w : World) (b : Bool) (hb : decide (lo ≤ n ∧ n ≤ hi) = b) : Calls Try.prog 17 #[.int .i64 n, .int .i64 lo, .int .i64 hi] w fun e w' => e = .returned (.bool b) ∧ w = w' := by
  by_cases h1 : lo ≤ n
  · by_cases h2 : n ≤ hi
    · rw [decide_eq_true ⟨h1, h2⟩] at hb; subst hb
      go_enter Try.func17, Try.ntmps17
      go_wp2
      go_ret
      exact ⟨rfl, rfl⟩
    · rw [decide_eq_false (fun h => h2 h.2)] at hb; subst hb
      go_enter Try.func17, Try.ntmps17
      go_wp2
      go_ret
      exact ⟨rfl, rfl⟩
  · rw [decide_eq_false (fun h => h1 h.1)] at hb; subst hb
    have h3 : decide (lo ≤ n) = false := by simpa using h1
    go_enter Try.func17, Try.ntmps17
    go_wp2
    go_ret
    exact ⟨rfl, rfl⟩
end Go.Proofs.Ytojkngdabejjdaa

/- Walks: isPoly and what it calls; the reference's l01Is. -/
namespace Go.Proofs.Ytojkngdabejjdaa
open Go.RowKit

/-- The function value that isPoly hands to areAll, its captured p at block bp. -/
def isPolyF (bp : Nat) : Value := .func (.func 57) #[] #[.pointer (some ⟨bp, 0, none⟩)]
/-- The function value that areAll hands to ContainsFunc, its captured predicate at block bf. -/
def areAllF (bf : Nat) : Value := .func (.func 63) #[] #[.pointer (some ⟨bf, 0, none⟩)]

set_option maxHeartbeats 400000 in
theorem isPoly1_any (x p : Int) (bp : Nat) (w : World) (h0 : 0 ≤ x) (h1 : x ≤ 255) (hc : w.cell? ⟨bp, 0, none⟩ = some (.int .i64 p)) (b : Bool) (hb : decide (x < p) = b) :
    Calls Try.prog 57 #[.int .u8 x, .pointer (some ⟨bp, 0, none⟩)] w fun e w' => e = .returned (.bool b) ∧ w = w' := by
  go_enter Try.func57, Try.ntmps57
  go_wp2
  go_ret
  exact ⟨by simp [← hb], rfl⟩

set_option maxHeartbeats 400000 in
theorem areAll1_any (x p : Int) (bp bf : Nat) (w : World) (h0 : 0 ≤ x) (h1 : x ≤ 255) (hc : w.cell? ⟨bp, 0, none⟩ = some (.int .i64 p)) (hf : w.cell? ⟨bf, 0, none⟩ = some (isPolyF bp)) (b : Bool) (hb : decide (x < p) = b) :
    Calls Try.prog 63 #[.int .u8 x, .pointer (some ⟨bf, 0, none⟩)] w fun e w' => e = .returned (.bool (!b)) ∧ w = w' := by
  unfold isPolyF at hf
  go_enter Try.func63, Try.ntmps63
  go_wp2_with (go_at_call 57; refine (isPoly1_any x p bp _ h0 h1 hc b hb).mono ?_; rintro e w' ⟨rfl, rfl⟩)
  go_ret
  exact ⟨rfl, rfl⟩

/-- The answer of IndexFunc when all are good, or when one is not. -/
def IdxPost (good : Prop) (w : World) (e : Ending) (w' : World) : Prop := ∃ r : Int, e = .returned (.int .i64 r) ∧ (good → r = -1) ∧ (¬ good → 0 ≤ r) ∧ w = w'

set_option maxHeartbeats 400000 in
theorem indexFuncB_any (f : Nat → Int) (n g T : Nat) (p : Int) (bp bf : Nat) (w : World) (hf : ∀ i, i < n → 0 ≤ f i ∧ f i ≤ 255) (hn : n ≤ 1000000) (hB : Blk w g (u8s n f) T)
    (hc : w.cell? ⟨bp, 0, none⟩ = some (.int .i64 p)) (hfc : w.cell? ⟨bf, 0, none⟩ = some (isPolyF bp)) :
    Calls Try.prog 64 #[.slice (some ⟨g, 0, none⟩) n n, areAllF bf] w (IdxPost (∀ i, i < n → f i < p) w) := by
  have hfcH : Hid (w.cell? ⟨bf, 0, none⟩ = some (isPolyF bp)) := hfc
  have hfH : Hid (∀ i, i < n → 0 ≤ f i ∧ f i ≤ 255) := hf
  clear hfc hf
  unfold areAllF
  go_enter Try.func64, Try.ntmps64
  go_wp2
  go_loop [8] (fun i => ∃ k : Nat, k ≤ n ∧ i = .int .i64 k ∧ ∀ j, j < k → f j < p) (fun i => n - (intOf i).toNat)
  case atStart => exact ⟨0, by omega, rfl, fun j hj => by omega⟩
  case round =>
    obtain ⟨k, hk, rfl, hall⟩ := hrel
    have hallH := Lib.hid hall; clear hall
    by_cases hlt : k < n
    · have c0 : w.cell? ⟨g, k, none⟩ = some (.int .u8 (f k)) := by rw [hB.cell, u8s_get _ hlt]
      have hr := hfH.out k hlt
      have hr1 := hr.1
      have hr2 := hr.2
      by_cases hlp : f k < p
      · go_wp2_with (go_at_call 63; refine (areAll1_any (f k) p bp bf _ hr1 hr2 hc hfcH.out true (by simpa using hlp)).mono ?_; rintro e w' ⟨rfl, rfl⟩)
        go_round
        case rel => exact ⟨k + 1, by omega, by go_num, fun j hj => by
          by_cases e1 : j = k
          · subst e1; exact hlp
          · exact hallH.out j (by omega)⟩
        case measure => simp [intOf]; omega
      · go_wp2_with (go_at_call 63; refine (areAll1_any (f k) p bp bf _ hr1 hr2 hc hfcH.out false (by simpa using hlp)).mono ?_; rintro e w' ⟨rfl, rfl⟩)
        go_ret
        exact ⟨k, rfl, fun hg => absurd (hg k hlt) (by omega), fun _ => by omega, rfl⟩
    · obtain rfl : k = n := by omega
      go_wp2_with fail
      go_ret
      exact ⟨-1, rfl, fun _ => rfl, fun hg => absurd hallH.out hg, rfl⟩

theorem containsFuncB_any (f : Nat → Int) (n g T : Nat) (p : Int) (bp bf : Nat) (w : World) (hf : ∀ i, i < n → 0 ≤ f i ∧ f i ≤ 255) (hn : n ≤ 1000000) (hB : Blk w g (u8s n f) T)
    (hc : w.cell? ⟨bp, 0, none⟩ = some (.int .i64 p)) (hfc : w.cell? ⟨bf, 0, none⟩ = some (isPolyF bp)) (b : Bool) (hb : decide (∀ i, i < n → f i < p) = b) :
    Calls Try.prog 62 #[.slice (some ⟨g, 0, none⟩) n n, areAllF bf] w fun e w' => e = .returned (.bool (!b)) ∧ w = w' := by
  have h1 := indexFuncB_any f n g T p bp bf w hf hn hB hc hfc
  have h1 : Calls Try.prog 64 #[.slice (some ⟨g, 0, none⟩) n n, areAllF bf] w fun e w' => ∃ r : Int, e = .returned (.int .i64 r) ∧ decide (0 ≤ r) = !b ∧ w = w' := by
    refine h1.mono ?_
    rintro e w' ⟨r, rfl, h2, h3, rfl⟩
    refine ⟨r, rfl, ?_, rfl⟩
    by_cases hg : ∀ i, i < n → f i < p
    · rw [decide_eq_true hg] at hb; subst hb; have := h2 hg; simp; omega
    · rw [decide_eq_false hg] at hb; subst hb; have := h3 hg; simp; omega
  have H1 := Lib.hid h1; clear h1 hf hB hc hfc hb
  unfold areAllF at *
  go_enter Try.func62, Try.ntmps62
  go_wp2_with (go_at_call 64; refine H1.out.mono ?_; rintro e w' ⟨r, rfl, hr, rfl⟩)
  go_ret
  exact ⟨by simp, rfl⟩

set_option maxHeartbeats 400000 in
theorem areAllB_any (f : Nat → Int) (n g T : Nat) (p : Int) (bp : Nat) (w : World) (hf : ∀ i, i < n → 0 ≤ f i ∧ f i ≤ 255) (hn : n ≤ 1000000) (hB : Blk w g (u8s n f) T)
    (hc : w.cell? ⟨bp, 0, none⟩ = some (.int .i64 p)) (b : Bool) (hb : decide (∀ i, i < n → f i < p) = b) :
    Calls Try.prog 56 #[.slice (some ⟨g, 0, none⟩) n n, isPolyF bp] w fun e w' => e = .returned (.bool b) ∧ Below w.heap.size w w' := by
  have hB2 : Blk (w.alloc (.cells #[isPolyF bp] 76)) g (u8s n f) T := hB.alloc _
  have hc2 : (w.alloc (.cells #[isPolyF bp] 76)).cell? ⟨bp, 0, none⟩ = some (.int .i64 p) := by
    rw [World.cell?_alloc_past _ _ _ (block_lt_of_cell hc)]; exact hc
  have hf2 : (w.alloc (.cells #[isPolyF bp] 76)).cell? ⟨w.heap.size, 0, none⟩ = some (isPolyF bp) := by
    rw [World.cell?_alloc_at _ _ _ _ rfl]; rfl
  have h1 := containsFuncB_any f n g T p bp w.heap.size _ hf hn hB2 hc2 hf2 b hb
  have H1 := Lib.hid h1; clear h1 hf hB hc hb hB2 hc2 hf2
  unfold isPolyF at *
  go_enter Try.func56, Try.ntmps56
  go_wp2_with (go_at_call 62; refine H1.out.mono ?_; rintro e w' ⟨rfl, rfl⟩)
  go_ret
  exact ⟨by simp, (Below.refl _ _).alloc (Nat.le_refl _) _⟩

set_option maxHeartbeats 400000 in
theorem isPoly_any (f : Nat → Int) (p : Int) (w : World) (hf : ∀ i, i < 64 → 0 ≤ f i ∧ f i ≤ 255) (b : Bool) (hb : decide (∀ i : Nat, i < 64 → f i < p) = b) :
    Calls Try.prog 39 #[.int .i64 p, .agg (u8s 64 f)] w fun e w' => e = .returned (.bool b) ∧ Below w.heap.size w w' := by
  have h1 := areAllB_any f 64 (w.heap.size + 1) 25 p w.heap.size ((w.alloc (.cells #[.int .i64 p] 2)).alloc (.cells (u8s 64 f) 25)) hf (by omega)
    (by have := Blk.new (w.alloc (.cells #[.int .i64 p] 2)) (u8s 64 f) 25; simpa using this)
    (by rw [World.cell?_alloc_past _ _ _ (by simp), World.cell?_alloc_at _ _ _ _ rfl]; rfl) b hb
  have H1 := Lib.hid h1; clear h1 hf hb
  unfold isPolyF at H1
  go_enter Try.func39, Try.ntmps39
  go_wp2_with (go_at_call 56; refine H1.out.mono ?_; rintro e w' ⟨rfl, hb⟩)
  go_ret
  exact ⟨rfl, (((Below.refl _ _).alloc (Nat.le_refl _) _).alloc (by simp) _).trans (hb.mono (by simp; omega))⟩

/-- A polynomial's check as the reference has it. -/
theorem l01Is_dec (f : Nat → Int) (p : Int) (b : Bool) (hb : decide ((∀ i : Nat, i < 64 → f i < p) ∧ Pr p) = b) :
    (∀ i : Nat, i < 64 → f i < p) → decide (Pr p) = b := by
  intro h; rw [← hb]; exact decide_eq_decide.2 ⟨fun h1 => ⟨h, h1⟩, fun h1 => h1.2⟩

set_option maxHeartbeats 400000 in
theorem l01Is_any (f : Nat → Int) (p : Int) (w : World) (hf : ∀ i, i < 64 → 0 ≤ f i ∧ f i ≤ 255) (b : Bool) (hb : decide ((∀ i : Nat, i < 64 → f i < p) ∧ Pr p) = b) :
    Calls Try.prog 30 #[.int .i64 p, .agg (u8s 64 f)] w fun e w' => e = .returned (.bool b) ∧ Below w.heap.size w w' := by
  have hfH := Lib.hid hf; clear hf
  have hbH := Lib.hid hb; clear hb
  go_enter Try.func30, Try.ntmps30
  go_wp2_with fail
  have hB : Blk (w.alloc (.cells (u8s 64 f) 25)) w.heap.size (u8s 64 f) 25 := Blk.new w _ _
  go_loop [5] (fun i => ∃ k : Nat, k ≤ 64 ∧ i = .int .i64 k ∧ ∀ j, j < k → f j < p) (fun i => 64 - (intOf i).toNat)
  case atStart => exact ⟨0, by omega, rfl, fun j hj => by omega⟩
  case round =>
    obtain ⟨k, hk, rfl, hall⟩ := hrel
    have hallH := Lib.hid hall; clear hall
    by_cases hlt : k < 64
    · have c0 : (w.alloc (.cells (u8s 64 f) 25)).cell? ⟨w.heap.size, k, none⟩ = some (.int .u8 (f k)) := by rw [hB.cell, u8s_get _ hlt]
      have hr1 := (hfH.out k hlt).1
      have hr2 := (hfH.out k hlt).2
      by_cases hlp : f k < p
      · go_wp2_with fail
        go_round
        case rel => exact ⟨k + 1, by omega, by go_num, fun j hj => by
          by_cases e1 : j = k
          · subst e1; exact hlp
          · exact hallH.out j (by omega)⟩
        case measure => simp [intOf]; omega
      · have hfin : b = false := by
          rw [← hbH.out, decide_eq_false_iff_not]; exact fun h => hlp (h.1 k hlt)
        subst hfin
        go_wp2_with fail
        go_ret
        exact ⟨rfl, (Below.refl _ _).alloc (Nat.le_refl _) _⟩
    · obtain rfl : k = 64 := by omega
      have hpr := l01Is_dec f p b hbH.out hallH.out
      have hprH := Lib.hid hpr; clear hpr
      go_wp2_with (go_at_call 29; refine (l01Prime_any p _ b hprH.out).mono ?_; rintro e w' ⟨rfl, rfl⟩)
      go_ret
      exact ⟨rfl, (Below.refl _ _).alloc (Nat.le_refl _) _⟩

end Go.Proofs.Ytojkngdabejjdaa

/- Walks: the codes for lists of polynomials. -/
namespace Go.Proofs.Ytojkngdabejjdaa
open Go.RowKit

/-- n cells from an address on (nothing is said of no cells). -/
def CellsAt (w : World) (oa : Option Addr) (n : Nat) (f : Nat → Value) : Prop :=
  0 < n → ∃ g o, oa = some ⟨g, o, none⟩ ∧ ∀ j, j < n → w.cell? ⟨g, o + j, none⟩ = some (f j)
theorem CellsAt.below {w w' : World} {oa : Option Addr} {n : Nat} {f : Nat → Value} (h : CellsAt w oa n f) (hb : Below w.heap.size w w') : CellsAt w' oa n f := fun hn => by
  obtain ⟨g, o, h1, h2⟩ := h hn
  refine ⟨g, o, h1, fun j hj => ?_⟩
  rw [hb.cell (block_lt_of_cell (h2 j hj))]
  exact h2 j hj
theorem CellsAt.ext {w : World} {oa : Option Addr} {n : Nat} {f g : Nat → Value} (h : CellsAt w oa n f) (e : ∀ i, i < n → f i = g i) : CellsAt w oa n g := fun hn => by
  obtain ⟨b, o, h1, h2⟩ := h hn
  exact ⟨b, o, h1, fun j hj => by rw [← e j hj]; exact h2 j hj⟩
theorem cell_below {w w' : World} {x : Addr} {v : Value} (h : w.cell? x = some v) (hb : Below w.heap.size w w') : w'.cell? x = some v := by
  rw [hb.cell (block_lt_of_cell h)]; exact h
theorem CellsAt.blk {w : World} {g : Nat} {n : Nat} {f : Nat → Value} {T : TypeId} (h : Blk w g (arr n f) T) : CellsAt w (some ⟨g, 0, none⟩) n f := fun _ =>
  ⟨g, 0, rfl, fun j hj => by rw [h.cell, Nat.zero_add, arr_get_lt _ hj]⟩

/-- All cells of n polynomials are numbers modulo p. -/
def AllP (n : Nat) (F : Nat → Int) (p : Int) : Prop := ∀ j, j < n * 64 → F j < p
theorem AllP_iff (n : Nat) (F : Nat → Int) (p : Int) : AllP n F p ↔ ∀ i, i < n → ∀ q, q < 64 → F (i * 64 + q) < p := by
  constructor
  · intro h i hi q hq; exact h _ (by omega)
  · intro h j hj
    have := h (j / 64) (by omega) (j % 64) (by omega)
    rwa [show j / 64 * 64 + j % 64 = j by omega] at this

def polysCodeF (bp : Nat) : Value := .func (.func 38) #[] #[.pointer (some ⟨bp, 0, none⟩)]
def areAllPF (bf : Nat) : Value := .func (.func 55) #[] #[.pointer (some ⟨bf, 0, none⟩)]

set_option maxHeartbeats 400000 in
theorem polysCode1_any (f : Nat → Int) (p : Int) (bp : Nat) (w : World) (hf : ∀ i, i < 64 → 0 ≤ f i ∧ f i ≤ 255) (hc : w.cell? ⟨bp, 0, none⟩ = some (.int .i64 p)) (b : Bool) (hb : decide (∀ i : Nat, i < 64 → f i < p) = b) :
    Calls Try.prog 38 #[.agg (u8s 64 f), .pointer (some ⟨bp, 0, none⟩)] w fun e w' => e = .returned (.bool b) ∧ Below w.heap.size w w' := by
  have hfH := Lib.hid hf; clear hf
  have hbH := Lib.hid hb; clear hb
  have hlt : bp < w.heap.size := block_lt_of_cell hc
  go_enter Try.func38, Try.ntmps38
  go_wp2_with (first | (refine wpl_load_arr rfl 25 _ rfl _ rfl _ _ (Blk.new w _ _) _ _ uPoly sPoly ?_) | (go_at_call 39; refine (isPoly_any f p _ hfH.out b hbH.out).mono ?_; rintro e w' ⟨rfl, hb1⟩))
  go_ret
  exact ⟨rfl, below_step (below_new _ _) hb1⟩

set_option maxHeartbeats 400000 in
theorem areAllP1_any (f : Nat → Int) (p : Int) (bp bf : Nat) (w : World) (hf : ∀ i, i < 64 → 0 ≤ f i ∧ f i ≤ 255) (hc : w.cell? ⟨bp, 0, none⟩ = some (.int .i64 p)) (hfc : w.cell? ⟨bf, 0, none⟩ = some (polysCodeF bp)) (b : Bool) (hb : decide (∀ i : Nat, i < 64 → f i < p) = b) :
    Calls Try.prog 55 #[.agg (u8s 64 f), .pointer (some ⟨bf, 0, none⟩)] w fun e w' => e = .returned (.bool (!b)) ∧ Below w.heap.size w w' := by
  have hc2 : (w.alloc (.cells (u8s 64 f) 25)).cell? ⟨bp, 0, none⟩ = some (.int .i64 p) := by
    rw [World.cell?_alloc_past _ _ _ (block_lt_of_cell hc)]; exact hc
  have h1 := polysCode1_any f p bp (w.alloc (.cells (u8s 64 f) 25)) hf hc2 b hb
  have H1 := Lib.hid h1; clear h1 hf hb hc2
  have hlt : bf < w.heap.size := block_lt_of_cell hfc
  unfold polysCodeF at hfc
  go_enter Try.func55, Try.ntmps55
  go_wp2_with (first | (refine wpl_load_arr rfl 25 _ rfl _ rfl _ _ (Blk.new w _ _) _ _ uPoly sPoly ?_) | (go_at_call 38; refine H1.out.mono ?_; rintro e w' ⟨rfl, hb1⟩))
  go_ret
  exact ⟨rfl, below_step (below_new _ _) hb1⟩

def IdxPostB (good : Prop) (w : World) (e : Ending) (w' : World) : Prop := ∃ r : Int, e = .returned (.int .i64 r) ∧ (good → r = -1) ∧ (¬ good → 0 ≤ r) ∧ Below w.heap.size w w'

set_option maxHeartbeats 400000 in
theorem indexFuncP_any (F : Nat → Int) (n cap : Nat) (oa : Option Addr) (p : Int) (bp bf : Nat) (w : World) (hF : ∀ j, j < n * 64 → 0 ≤ F j ∧ F j ≤ 255) (hn : n ≤ 1000000000)
    (hC : CellsAt w oa (n * 64) (fun j => .int .u8 (F j))) (hc : w.cell? ⟨bp, 0, none⟩ = some (.int .i64 p)) (hfc : w.cell? ⟨bf, 0, none⟩ = some (polysCodeF bp)) :
    Calls Try.prog 61 #[.slice oa n cap, areAllPF bf] w (IdxPostB (AllP n F p) w) := by
  have hcH := Lib.hid hc
  have hfcH := Lib.hid hfc
  have hFH := Lib.hid hF
  have hCH := Lib.hid hC
  clear hfc hF hc hC
  unfold areAllPF
  go_enter Try.func61, Try.ntmps61
  go_wp2
  go_loopw [8] (fun i wr => ∃ k : Nat, k ≤ n ∧ i = .int .i64 k ∧ (∀ j, j < k → ∀ q, q < 64 → F (j * 64 + q) < p) ∧ Below w.heap.size w wr) (fun i _ => n - (intOf i).toNat)
  case atStart => exact ⟨0, by omega, rfl, fun j hj => by omega, Below.refl _ _⟩
  case round =>
    obtain ⟨k, hk, rfl, hall, hb⟩ := hrel
    have hallH := Lib.hid hall; clear hall
    by_cases hlt : k < n
    · obtain ⟨g, o, rfl, hcell⟩ := hCH.out (by omega)
      have hcellr : ∀ q, q < 64 → wr.cell? ⟨g, o + k * 64 + q, none⟩ = some (.int .u8 (F (k * 64 + q))) := fun q hq => by
        have := cell_below (hcell (k * 64 + q) (by omega)) hb
        rwa [← Nat.add_assoc] at this
      have hcr := cell_below hcH.out hb
      have hfr := cell_below hfcH.out hb
      have hFk : ∀ i, i < 64 → 0 ≤ F (k * 64 + i) ∧ F (k * 64 + i) ≤ 255 := fun i hi => hFH.out _ (by omega)
      obtain ⟨b, hbb⟩ : ∃ b, decide (∀ i : Nat, i < 64 → F (k * 64 + i) < p) = b := ⟨_, rfl⟩
      have h1 := areAllP1_any (fun q => F (k * 64 + q)) p bp bf wr hFk hcr hfr b hbb
      have H1 := Lib.hid h1
      have hcellH := Lib.hid hcellr
      have hbbH := Lib.hid hbb
      have hltH := hlt
      clear h1 hcellr hcell hcr hfr hFk hbb
      cases b
      · go_wp2_with (first | (refine wpl_load_mid rfl 25 _ rfl g (o + k * 64) rfl 64 _ _ hcellH.out uPoly sPoly ?_) | (go_at_call 55; refine H1.out.mono ?_; rintro e w' ⟨rfl, hb1⟩))
        go_ret
        refine ⟨k, rfl, fun hg => ?_, fun _ => by omega, hb.trans (hb1.mono hb.size)⟩
        have := (AllP_iff n F p).1 hg k hltH
        rw [decide_eq_true this] at hbbH; exact absurd hbbH.out (by simp)
      · go_wp2_with (first | (refine wpl_load_mid rfl 25 _ rfl g (o + k * 64) rfl 64 _ _ hcellH.out uPoly sPoly ?_) | (go_at_call 55; refine H1.out.mono ?_; rintro e w' ⟨rfl, hb1⟩))
        go_roundw
        case rel =>
          refine ⟨k + 1, by omega, by go_num, fun j hj => ?_, hb.trans (hb1.mono hb.size)⟩
          by_cases e1 : j = k
          · subst e1; exact of_decide_eq_true hbbH.out
          · exact hallH.out j (by omega)
        case measure => simp [intOf]; omega
    · obtain rfl : k = n := by omega
      go_wp2_with fail
      go_ret
      exact ⟨-1, rfl, fun _ => rfl, fun hg => absurd ((AllP_iff _ _ _).2 hallH.out) hg, hb⟩

theorem containsFuncP_any (F : Nat → Int) (n cap : Nat) (oa : Option Addr) (p : Int) (bp bf : Nat) (w : World) (hF : ∀ j, j < n * 64 → 0 ≤ F j ∧ F j ≤ 255) (hn : n ≤ 1000000000)
    (hC : CellsAt w oa (n * 64) (fun j => .int .u8 (F j))) (hc : w.cell? ⟨bp, 0, none⟩ = some (.int .i64 p)) (hfc : w.cell? ⟨bf, 0, none⟩ = some (polysCodeF bp)) (b : Bool) (hb : AllP n F p ↔ b = true) :
    Calls Try.prog 54 #[.slice oa n cap, areAllPF bf] w fun e w' => e = .returned (.bool (!b)) ∧ Below w.heap.size w w' := by
  have h1 := indexFuncP_any F n cap oa p bp bf w hF hn hC hc hfc
  have h1 : Calls Try.prog 61 #[.slice oa n cap, areAllPF bf] w fun e w' => ∃ r : Int, e = .returned (.int .i64 r) ∧ decide (0 ≤ r) = !b ∧ Below w.heap.size w w' := by
    refine h1.mono ?_
    rintro e w' ⟨r, rfl, h2, h3, h4⟩
    refine ⟨r, rfl, ?_, h4⟩
    cases b
    · have := h3 (fun h => by simpa using hb.1 h); simp; omega
    · have := h2 (hb.2 rfl); simp; omega
  have H1 := Lib.hid h1; clear h1 hF hC hc hfc hb
  unfold areAllPF at *
  go_enter Try.func54, Try.ntmps54
  go_wp2_with (go_at_call 61; refine H1.out.mono ?_; rintro e w' ⟨r, rfl, hr, hb1⟩)
  go_ret
  exact ⟨by simp, hb1⟩

set_option maxHeartbeats 400000 in
theorem areAllP_any (F : Nat → Int) (n cap : Nat) (oa : Option Addr) (p : Int) (bp : Nat) (w : World) (hF : ∀ j, j < n * 64 → 0 ≤ F j ∧ F j ≤ 255) (hn : n ≤ 1000000000)
    (hC : CellsAt w oa (n * 64) (fun j => .int .u8 (F j))) (hc : w.cell? ⟨bp, 0, none⟩ = some (.int .i64 p)) (b : Bool) (hb : AllP n F p ↔ b = true) :
    Calls Try.prog 37 #[.slice oa n cap, polysCodeF bp] w fun e w' => e = .returned (.bool b) ∧ Below w.heap.size w w' := by
  have hb0 := below_new w (.cells #[polysCodeF bp] 40)
  have hf2 : (w.alloc (.cells #[polysCodeF bp] 40)).cell? ⟨w.heap.size, 0, none⟩ = some (polysCodeF bp) := by
    rw [World.cell?_alloc_at _ _ _ _ rfl]; rfl
  have h1 := containsFuncP_any F n cap oa p bp w.heap.size _ hF hn (hC.below hb0) (cell_below hc hb0) hf2 b hb
  have H1 := Lib.hid h1; clear h1 hF hC hc hb hf2
  unfold polysCodeF at *
  go_enter Try.func37, Try.ntmps37
  go_wp2_with (go_at_call 54; refine H1.out.mono ?_; rintro e w' ⟨rfl, hb1⟩)
  go_ret
  exact ⟨by simp, below_step hb0 hb1⟩

/-- The code of a list of polynomials: 0 if all is well, 1 (ErrInvalid) otherwise. -/
def codeOf (b : Bool) : Int := if b then 0 else 1

set_option maxHeartbeats 400000 in
theorem polysCode_any (F : Nat → Int) (n cap : Nat) (oa : Option Addr) (p : Int) (w : World) (hF : ∀ j, j < n * 64 → 0 ≤ F j ∧ F j ≤ 255) (hn : n ≤ 1000000000)
    (hC : CellsAt w oa (n * 64) (fun j => .int .u8 (F j))) (b : Bool) (hb : (Pr p ∧ AllP n F p) ↔ b = true) :
    Calls Try.prog 23 #[.int .i64 p, .slice oa n cap] w fun e w' => e = .returned (.int .i64 (codeOf b)) ∧ Below w.heap.size w w' := by
  have hb0 := below_new w (.cells #[.int .i64 p] 2)
  have hc2 : (w.alloc (.cells #[.int .i64 p] 2)).cell? ⟨w.heap.size, 0, none⟩ = some (.int .i64 p) := by
    rw [World.cell?_alloc_at _ _ _ _ rfl]; rfl
  by_cases hp : Pr p
  · have hpd : decide (Pr p) = true := by simpa using hp
    have h2 : AllP n F p ↔ b = true := by rw [← hb]; simp [hp]
    have h1 := areAllP_any F n cap oa p w.heap.size _ hF hn (hC.below hb0) hc2 b h2
    have H1 := Lib.hid h1
    have hpH := Lib.hid hpd
    clear h1 hF hC hb h2 hpd
    unfold polysCodeF at H1
    cases b
    · go_enter Try.func23, Try.ntmps23
      go_wp2_with (first | (go_at_call 36; refine (isPrime_any p _ true hpH.out).mono ?_; rintro e w' ⟨rfl, rfl⟩) | (go_at_call 37; refine H1.out.mono ?_; rintro e w' ⟨rfl, hb1⟩))
      go_ret
      exact ⟨rfl, below_step hb0 hb1⟩
    · go_enter Try.func23, Try.ntmps23
      go_wp2_with (first | (go_at_call 36; refine (isPrime_any p _ true hpH.out).mono ?_; rintro e w' ⟨rfl, rfl⟩) | (go_at_call 37; refine H1.out.mono ?_; rintro e w' ⟨rfl, hb1⟩))
      go_ret
      exact ⟨rfl, below_step hb0 hb1⟩
  · have hpd : decide (Pr p) = false := by simpa using hp
    have h2 : b = false := by
      cases b
      · rfl
      · exact absurd (hb.2 rfl).1 hp
    subst h2
    have hpH := Lib.hid hpd
    clear hF hC hb hpd hc2
    go_enter Try.func23, Try.ntmps23
    go_wp2_with (first | (go_at_call 36; refine (isPrime_any p _ false hpH.out).mono ?_; rintro e w' ⟨rfl, rfl⟩))
    go_ret
    exact ⟨rfl, hb0⟩

set_option maxHeartbeats 400000 in
theorem l01Code_any (F : Nat → Int) (n cap : Nat) (oa : Option Addr) (p : Int) (w : World) (hF : ∀ j, j < n * 64 → 0 ≤ F j ∧ F j ≤ 255) (hn : n ≤ 1000000000)
    (hC : CellsAt w oa (n * 64) (fun j => .int .u8 (F j))) (b : Bool) (hb : (Pr p ∧ AllP n F p) ↔ b = true) :
    Calls Try.prog 15 #[.int .i64 p, .slice oa n cap] w fun e w' => e = .returned (.int .i64 (codeOf b)) ∧ Below w.heap.size w w' := by
  have hFH := Lib.hid hF
  have hCH := Lib.hid hC
  have hbH := Lib.hid hb
  clear hF hC hb
  by_cases hp : Pr p
  · have hpd : decide (Pr p) = true := by simpa using hp
    have hpH := Lib.hid hpd
    clear hpd
    go_enter Try.func15, Try.ntmps15
    go_wp2_with (go_at_call 29; refine (l01Prime_any p _ true hpH.out).mono ?_; rintro e w' ⟨rfl, rfl⟩)
    go_loopw [5] (fun i wr => ∃ k : Nat, k ≤ n ∧ i = .int .i64 k ∧ (∀ j, j < k → ∀ q, q < 64 → F (j * 64 + q) < p) ∧ Below w.heap.size w wr) (fun i _ => n - (intOf i).toNat)
    case atStart => exact ⟨0, by omega, rfl, fun j hj => by omega, Below.refl _ _⟩
    case round =>
      obtain ⟨k, hk, rfl, hall, hb⟩ := hrel
      have hallH := Lib.hid hall; clear hall
      by_cases hlt : k < n
      · obtain ⟨g, o, rfl, hcell⟩ := hCH.out (by omega)
        have hcellr : ∀ q, q < 64 → wr.cell? ⟨g, o + k * 64 + q, none⟩ = some (.int .u8 (F (k * 64 + q))) := fun q hq => by
          have := cell_below (hcell (k * 64 + q) (by omega)) hb
          rwa [← Nat.add_assoc] at this
        have hFk : ∀ i, i < 64 → 0 ≤ F (k * 64 + i) ∧ F (k * 64 + i) ≤ 255 := fun i hi => hFH.out _ (by omega)
        obtain ⟨c, hbb⟩ : ∃ c, decide ((∀ i : Nat, i < 64 → F (k * 64 + i) < p) ∧ Pr p) = c := ⟨_, rfl⟩
        have h1 := l01Is_any (fun q => F (k * 64 + q)) p wr hFk c hbb
        have H1 := Lib.hid h1
        have hcellH := Lib.hid hcellr
        have hbbH := Lib.hid hbb
        have hltH := hlt
        clear h1 hcellr hcell hFk hbb
        cases c
        · have hbf : b = false := by
            cases b
            · rfl
            · have h3 := hbH.out.2 rfl
              have h4 := of_decide_eq_false hbbH.out
              exact absurd ⟨(AllP_iff n F p).1 h3.2 k hlt, hp⟩ h4
          subst hbf
          go_wp2_with (first | (refine wpl_load_mid rfl 25 _ rfl g (o + k * 64) rfl 64 _ _ hcellH.out uPoly sPoly ?_) | (go_at_call 30; refine H1.out.mono ?_; rintro e w' ⟨rfl, hb1⟩))
          go_ret
          exact ⟨rfl, below_step hb hb1⟩
        · go_wp2_with (first | (refine wpl_load_mid rfl 25 _ rfl g (o + k * 64) rfl 64 _ _ hcellH.out uPoly sPoly ?_) | (go_at_call 30; refine H1.out.mono ?_; rintro e w' ⟨rfl, hb1⟩))
          go_roundw
          case rel =>
            refine ⟨k + 1, by omega, by go_num, fun j hj => ?_, below_step hb hb1⟩
            by_cases e1 : j = k
            · subst e1; exact (of_decide_eq_true hbbH.out).1
            · exact hallH.out j (by omega)
          case measure => simp [intOf]; omega
      · obtain rfl : k = n := by omega
        have hbt : b = true := hbH.out.1 ⟨hp, (AllP_iff _ _ _).2 hallH.out⟩
        subst hbt
        go_wp2_with fail
        go_ret
        exact ⟨rfl, hb⟩
  · have hpd : decide (Pr p) = false := by simpa using hp
    have h2 : b = false := by
      cases b
      · rfl
      · exact absurd (hbH.out.2 rfl).1 hp
    subst h2
    have hpH := Lib.hid hpd
    clear hpd
    go_enter Try.func15, Try.ntmps15
    go_wp2_with (first | (go_at_call 29; refine (l01Prime_any p _ false hpH.out).mono ?_; rintro e w' ⟨rfl, rfl⟩))
    go_ret
    exact ⟨rfl, Below.refl _ _⟩
end Go.Proofs.Ytojkngdabejjdaa

/- Walks: rows of coefficients: trimmed, degree, lead, at, reduce; the reference's degree. -/
namespace Go.Proofs.Ytojkngdabejjdaa
open Go.RowKit

theorem ret_int {k : IntKind} {a b : Int} (h : a = b) : Ending.returned (.int k a) = .returned (.int k b) := by rw [h]

set_option maxHeartbeats 400000 in
theorem degree_any (v : Value) (xs : List Int) (w : World) (h : IsRow w v xs) :
    Calls Try.prog 42 #[v] w fun e w' => e = .returned (.int .i64 ((xs.length : Int) - 1)) ∧ w = w' := by
  obtain ⟨oa, cap, rfl, hle, hcap, _⟩ := h
  unfold maxLen at hcap
  go_enter Try.func42, Try.ntmps42
  go_wp2
  go_ret
  exact ⟨rfl, rfl⟩

set_option maxHeartbeats 400000 in
theorem lead_any (v : Value) (xs : List Int) (w : World) (h : IsRow w v xs) :
    Calls Try.prog 40 #[v] w fun e w' => e = .returned (.int .i64 (cf xs (xs.length - 1))) ∧ w = w' := by
  obtain ⟨oa, cap, rfl, hle, hcap, hcell⟩ := h
  unfold maxLen at hcap
  by_cases hl : xs.length = 0
  · have e0 : cf xs (xs.length - 1) = 0 := cf_ge _ _ (by omega)
    rw [e0]
    rw [hl] at *
    go_enter Try.func40, Try.ntmps40
    go_wp2
    go_ret
    exact ⟨rfl, rfl⟩
  · obtain ⟨b, off, rfl, hc⟩ := hcell (by omega)
    have c0 := hc (xs.length - 1) (by omega)
    obtain ⟨m, hm⟩ : ∃ m, xs.length = m + 1 := ⟨xs.length - 1, by omega⟩
    generalize hx : cf xs (xs.length - 1) = x at *
    clear hc hcell hx
    generalize xs.length = L at *
    subst hm
    simp only [Nat.add_sub_cancel] at c0
    go_enter Try.func40, Try.ntmps40
    go_wp2
    go_ret
    exact ⟨rfl, rfl⟩

set_option maxHeartbeats 400000 in
theorem at_any (v : Value) (xs : List Int) (i : Nat) (w : World) (h : IsRow w v xs) (hi : i ≤ 1000000000000) :
    Calls Try.prog 60 #[v, .int .i64 i] w fun e w' => e = .returned (.int .i64 (cf xs i)) ∧ w = w' := by
  obtain ⟨oa, cap, rfl, hle, hcap, hcell⟩ := h
  unfold maxLen at hcap
  by_cases hl : i < xs.length
  · obtain ⟨b, off, rfl, hc⟩ := hcell (by omega)
    have c0 := hc i hl
    clear hc hcell
    go_enter Try.func60, Try.ntmps60
    go_wp2
    go_ret
    exact ⟨rfl, rfl⟩
  · have e0 : cf xs i = 0 := cf_ge _ _ (by omega)
    rw [e0]
    clear e0 hcell
    go_enter Try.func60, Try.ntmps60
    go_wp2
    go_ret
    exact ⟨rfl, rfl⟩

theorem tmod_reduce (p n : Int) (hp : 0 < p) : ((n.tmod p) + p) % p = n % p := by
  have h1 : n.tmod p = n - p * (n.tdiv p) := by have := Int.mul_tdiv_add_tmod n p; omega
  rw [h1, show n - p * n.tdiv p + p = n + p * (1 - n.tdiv p) by rw [Int.mul_sub, Int.mul_one]; omega, Int.add_mul_emod_self_left]
theorem tmod_range (p n : Int) (hp : 0 < p) : -p < n.tmod p ∧ n.tmod p < p := by
  constructor
  · have := Int.lt_tmod_of_pos n hp; omega
  · exact Int.tmod_lt_of_pos n hp

set_option maxHeartbeats 400000 in
theorem reduce_any (p n : Int) (w : World) (hp : Pr p) (h1 : -1000000000000000 ≤ n) (h2 : n ≤ 1000000000000000) :
    Calls Try.prog 59 #[.int .i64 p, .int .i64 n] w fun e w' => e = .returned (.int .i64 (n % p)) ∧ w = w' := by
  have hp1 := hp.pos.1
  have hp2 := hp.pos.2
  have ht := tmod_range p n (by omega)
  have ht1 := ht.1
  have ht2 := ht.2
  have hr := tmod_reduce p n (by omega)
  have hrH := Lib.hid hr
  have hpz : (p == 0) = false := by rw [beq_eq_false_iff_ne]; omega
  clear hr hp ht
  go_enter Try.func59, Try.ntmps59
  go_wp2
  go_ret
  exact ⟨ret_int hrH.out, rfl⟩

theorem mkp_len_eq {n k : Nat} {f : Nat → Int} (hk : k ≤ n) (hz : ∀ i, k ≤ i → i < n → f i = 0) (hl : k = 0 ∨ f (k - 1) ≠ 0) : (mkp n f).length = k := by
  have h1 : (mkp n f).length ≤ k := Tr_length_le (mkp_Tr n f) fun i hi => by
    rw [mkp_cf]; split
    · exact hz i hi ‹_›
    · rfl
  rcases hl with h | h
  · omega
  · by_cases hlt : (mkp n f).length ≤ k - 1
    · by_cases h0 : k = 0
      · omega
      · have := cf_ge (mkp n f) (k - 1) hlt
        rw [mkp_cf, if_pos (by omega)] at this
        exact absurd this h
    · omega

set_option maxHeartbeats 400000 in
theorem l01Deg_any (f : Nat → Int) (w : World) (hf : ∀ i, i < 64 → 0 ≤ f i ∧ f i ≤ 255) :
    Calls Try.prog 18 #[.agg (u8s 64 f)] w fun e w' => e = .returned (.int .i64 (((mkp 64 f).length : Int) - 1)) ∧ Below w.heap.size w w' := by
  have hfH := Lib.hid hf; clear hf
  go_enter Try.func18, Try.ntmps18
  go_wp2_with fail
  have hB : Blk (w.alloc (.cells (u8s 64 f) 25)) w.heap.size (u8s 64 f) 25 := Blk.new w _ _
  go_loop [3] (fun i => ∃ k : Nat, k ≤ 64 ∧ i = .int .i64 ((k : Int) - 1) ∧ ∀ j, k ≤ j → j < 64 → f j = 0) (fun i => (intOf i + 1).toNat)
  case atStart => exact ⟨64, by omega, rfl, fun j hj => by omega⟩
  case round =>
    obtain ⟨k, hk, hi, hall⟩ := hrel
    have hallH := Lib.hid hall; clear hall
    by_cases h0 : k = 0
    · subst h0
      have hfin := Lib.hid (mkp_len_eq (n := 64) (k := 0) (f := f) (by omega) hallH.out (Or.inl rfl))
      simp only [Int.natCast_zero, Int.zero_sub] at hi
      subst hi
      go_wp2_with fail
      go_ret
      exact ⟨by rw [hfin.out]; rfl, below_new _ _⟩
    · obtain ⟨m, rfl⟩ : ∃ m, k = m + 1 := ⟨k - 1, by omega⟩
      rw [show (((m + 1 : Nat) : Int) - 1) = (m : Int) by omega] at hi
      subst hi
      have c0 : (w.alloc (.cells (u8s 64 f) 25)).cell? ⟨w.heap.size, m, none⟩ = some (.int .u8 (f m)) := by rw [hB.cell, u8s_get _ (by omega)]
      have hr1 := (hfH.out m (by omega)).1
      have hr2 := (hfH.out m (by omega)).2
      by_cases hz : f m = 0
      · have hzb : (f m == 0) = true := by simpa using hz
        have hzH := Lib.hid hz; clear hz
        go_wp2_with fail
        go_round
        case rel => exact ⟨m, by omega, by go_num, fun j h1 h2 => by
          by_cases e1 : j = m
          · subst e1; exact hzH.out
          · exact hallH.out j (by omega) h2⟩
        case measure => simp [intOf] <;> omega
      · have hzb : (f m == 0) = false := by simpa using hz
        have hfin := Lib.hid (mkp_len_eq (n := 64) (k := m + 1) (f := f) (by omega) hallH.out (Or.inr (by simpa using hz)))
        clear hz
        go_wp2_with fail
        go_ret
        exact ⟨ret_int (by rw [hfin.out]; omega), below_new _ _⟩

theorem trim_len_take (xs : List Int) (k : Nat) (hk : k ≤ xs.length) (hz : ∀ i, k ≤ i → cf xs i = 0) (hl : k = 0 ∨ cf xs (k - 1) ≠ 0) : trim xs = xs.take k := trim_eq_take xs k hk hz hl

/-- A part of a row from its begin on. -/
theorem IsRow_cut {w : World} {oa : Option Addr} {xs : List Int} {k cap : Nat} (hk : k ≤ xs.length) (hcap : k ≤ cap) (hm : cap ≤ maxLen)
    (h : 0 < xs.length → ∃ b off, oa = some ⟨b, off, none⟩ ∧ ∀ i, i < xs.length → w.cell? ⟨b, off + i, none⟩ = some (.int .i64 (cf xs i))) :
    IsRow w (.slice oa k cap) (xs.take k) := by
  have hlen : (xs.take k).length = k := by simp; omega
  refine ⟨oa, cap, by rw [hlen], by omega, hm, fun h0 => ?_⟩
  obtain ⟨b, off, h1, h2⟩ := h (by omega)
  refine ⟨b, off, h1, fun i hi => ?_⟩
  rw [h2 i (by omega), cf_take, if_pos (by omega)]

set_option maxHeartbeats 400000 in
theorem trimmed_any (v : Value) (xs : List Int) (w : World) (h : IsRow w v xs) :
    Calls Try.prog 26 #[v] w fun e w' => ∃ v', e = .returned v' ∧ IsRow w v' (trim xs) ∧ w = w' := by
  obtain ⟨oa, cap, rfl, hle, hcap, hcell⟩ := h
  have hcellH := Lib.hid hcell
  have hcapH := Lib.hid hcap
  unfold maxLen at hcap
  have hcap2 : xs.length ≤ 9223372036854775807 := by omega
  clear hcell hcap
  generalize hL : xs.length = L at *
  have hLH := Lib.hid hL
  clear hL
  go_enter Try.func26, Try.ntmps26
  go_wp2_with fail
  go_loop [3] (fun i => ∃ k : Nat, k ≤ L ∧ i = .int .i64 (k : Int) ∧ ∀ j, k ≤ j → cf xs j = 0) (fun i => (intOf i).toNat)
  case atStart => exact ⟨L, Nat.le_refl _, rfl, fun j hj => cf_ge _ _ (by rw [hLH.out]; exact hj)⟩
  case round =>
    obtain ⟨k, hk, hi, hall⟩ := hrel
    have hallH := Lib.hid hall; clear hall
    by_cases h0 : k = 0
    · subst h0
      simp only [Int.natCast_zero] at hi
      subst hi
      go_wp2_with fail
      go_ret
      have hfin := trim_len_take xs 0 (by omega) hallH.out (Or.inl rfl)
      rw [hfin]
      exact ⟨_, rfl, IsRow_cut (by omega) (Nat.le_refl _) (by unfold maxLen; omega) (by rw [hLH.out]; exact hcellH.out), rfl⟩
    · obtain ⟨m, rfl⟩ : ∃ m, k = m + 1 := ⟨k - 1, by omega⟩
      subst hi
      obtain ⟨b, off, rfl, hc⟩ := hcellH.out (by omega)
      have c0 := hc m (by omega)
      clear hc
      by_cases hz : cf xs m = 0
      · have hzb : (cf xs m == 0) = true := by simpa using hz
        have hzH := Lib.hid hz; clear hz
        go_wp2_with fail
        go_round
        case rel => exact ⟨m, by omega, by go_num, fun j h1 => by
          by_cases e1 : j = m
          · subst e1; exact hzH.out
          · exact hallH.out j (by omega)⟩
        case measure => simp [intOf] <;> omega
      · have hzb : (cf xs m == 0) = false := by simpa using hz
        have hfin := Lib.hid (trim_len_take xs (m + 1) (by rw [hLH.out]; omega) hallH.out (Or.inr (by simpa using hz)))
        clear hz
        go_wp2_with fail
        go_ret
        rw [hfin.out]
        refine ⟨_, rfl, ?_, rfl⟩
        have h3 := IsRow_cut (w := w) (oa := some ⟨b, off, none⟩) (xs := xs) (k := m + 1) (cap := m + 1) (by rw [hLH.out]; omega) (Nat.le_refl _) (by unfold maxLen; omega) (by rw [hLH.out]; exact hcellH.out)
        simpa using h3
end Go.Proofs.Ytojkngdabejjdaa

/- Walks: rowOf, eqPoly. -/
namespace Go.Proofs.Ytojkngdabejjdaa
open Go.RowKit

theorem iInt : (Try.prog.info? 2).map (fun i => (i.zero, i.size, i.bytes)) = some (some (.int .i64 0), 1, 8) := by kernel_rfl

/-- An owned row of numbers reads as a row. -/
theorem IsRow_owned {w : World} {base e n : Nat} {v : Value} {f : Nat → Int} (h : w.ownsRow base e 1 v n ((List.range n).map fun j => .int .i64 (f j))) : IsRow w v ((List.range n).map f) := by
  have hlen : ((List.range n).map f).length = n := by simp
  rcases h with ⟨_, ⟨rfl, rfl⟩ | ⟨g, cap, cur, rfl, hg, hb, h1, h2, h3, h4⟩⟩
  · exact IsRow_nil w
  · refine ⟨_, cap, by rw [hlen], by omega, h2, fun h0 => ⟨g, 0, rfl, fun i hi => ?_⟩⟩
    rw [hlen] at hi
    rw [cell_of_row w g (0 + i) cur e _ hb, Nat.zero_add]
    have h5 : (cur.toList.take (n * 1))[i]? = some (.int .i64 (f i)) := by
      rw [h4, List.getElem?_map, List.getElem?_range hi]; rfl
    rw [List.getElem?_take, if_pos (by omega)] at h5
    rw [cf_map_range, if_pos hi]
    simpa using h5

set_option maxHeartbeats 1000000 in
theorem rowOf_any (f : Nat → Int) (w : World) (hf : ∀ i, i < 64 → 0 ≤ f i ∧ f i ≤ 255) :
    Calls Try.prog 13 #[.agg (u8s 64 f)] w fun e w' => ∃ v, e = .returned v ∧ IsRow w' v (mkp 64 f) ∧ Below w.heap.size w w' := by
  have hfH := Lib.hid hf; clear hf
  go_enter Try.func13, Try.ntmps13
  go_wp2_with (refine wpl_load_arr rfl 25 _ rfl _ rfl _ _ (Blk.new w _ _) _ _ uPoly sPoly ?_)
  go_loopw [3, 7] (fun v i wr => ∃ k : Nat, k ≤ 64 ∧ i = .int .i64 k ∧ wr.ownsRow (w.heap.size + 1) 2 1 v k ((List.range k).map fun j => .int .i64 (f j)) ∧ Below w.heap.size w wr ∧ w.heap.size + 1 ≤ wr.heap.size) (fun _ i _ => 64 - (intOf i).toNat)
  case atStart => exact ⟨0, by omega, rfl, World.ownsRow_nil _ _ _ _, below_new _ _, by simp⟩
  case round =>
    obtain ⟨k, hk, rfl, hown, hb, hsz⟩ := hrel
    by_cases hlt : k < 64
    · have hr1 := (hfH.out k hlt).1
      have hr2 := (hfH.out k hlt).2
      have hown2 := hown.alloc (.cells #[.int .i64 (f k)] 2)
      have hownH := Lib.hid hown2
      clear hown hown2
      go_wp2_with (first | (refine wpl_index_arr rfl 25 _ _ rfl 64 5 (u8s 64 f) (.int .u8) rfl .i64 k rfl hlt uPoly uByte rfl sByte _ (u8s_get f hlt) ?_) |
        (at_builtin; refine wpl_append_one rfl _ _ 33 rfl (w.heap.size + 1) 2 (.int .i64 0) 1 8 Try.underlying33 iInt rfl (by decide) (by decide) _ k _ rfl hownH.out wr.heap.size rfl [.int .i64 (f k)] rfl (one_new _ _ _) (by intro u hu; rw [List.mem_singleton] at hu; subst hu; rfl) (by omega) (by simp; omega) ?_))
      intro v' w2 hown3 hb2
      have hown4 : w2.ownsRow (w.heap.size + 1) 2 1 v' (k + 1) ((List.range (k + 1)).map fun j => .int .i64 (f j)) := by
        rw [List.range_succ, List.map_append]; exact hown3
      have hownH := Lib.hid hown4
      have hsz2 : w.heap.size + 1 ≤ w2.heap.size := by have := hb2.size; simp at this; omega
      have hb3 := (hb.alloc (by omega) (.cells #[.int .i64 (f k)] 2)).trans (hb2.mono (by omega))
      clear hown3 hown4 hb2
      go_wp2
      go_roundw
      case rel => exact ⟨k + 1, by omega, by go_num, hownH.out, hb3, hsz2⟩
      case measure => simp [intOf] <;> omega
    · obtain rfl : k = 64 := by omega
      have hrow := Lib.hid (IsRow_owned hown)
      clear hown
      go_wp2_with (go_at_call 26; refine (trimmed_any _ _ _ hrow.out).mono ?_; rintro e w' ⟨v', rfl, hr, rfl⟩)
      go_ret
      exact ⟨_, rfl, hr, hb⟩

end Go.Proofs.Ytojkngdabejjdaa

/- Walks: the codes of lists that a call writes out; DegreeOf on both sides. -/
namespace Go.Proofs.Ytojkngdabejjdaa
open Go.RowKit

/-- All coefficients of all polynomials are numbers modulo p, and p is a prime. -/
def Good (p : Int) (fs : List (Nat → Int)) : Prop := Pr p ∧ ∀ f ∈ fs, ∀ i, i < 64 → f i < p
/-- Bytes. -/
def By (f : Nat → Int) : Prop := ∀ i, 0 ≤ f i ∧ f i ≤ 255

theorem polysF_in (fs : List (Nat → Int)) (hf : ∀ f ∈ fs, By f) (j : Nat) : 0 ≤ polysF fs j ∧ polysF fs j ≤ 255 := by
  unfold polysF
  by_cases h : j / 64 < fs.length
  · rw [List.getD_eq_getElem?_getD, List.getElem?_eq_getElem h]
    exact hf _ (List.getElem_mem h) _
  · rw [List.getD_eq_getElem?_getD, List.getElem?_eq_none (by omega)]
    show (0 : Int) ≤ 0 ∧ (0 : Int) ≤ 255
    omega
theorem AllP_polysF (p : Int) (fs : List (Nat → Int)) : AllP fs.length (polysF fs) p ↔ ∀ f ∈ fs, ∀ i, i < 64 → f i < p := by
  rw [AllP_iff]
  have e : ∀ i (hi : i < fs.length) q, q < 64 → polysF fs (i * 64 + q) = fs[i] q := by
    intro i hi q hq
    unfold polysF
    rw [show (i * 64 + q) / 64 = i by omega, show (i * 64 + q) % 64 = q by omega, List.getD_eq_getElem?_getD, List.getElem?_eq_getElem hi]; rfl
  constructor
  · intro h f hf q hq
    obtain ⟨i, hi, rfl⟩ := List.mem_iff_getElem.1 hf
    rw [← e i hi q hq]; exact h i hi q hq
  · intro h i hi q hq
    rw [e i hi q hq]; exact h _ (List.getElem_mem hi) q hq

theorem polysCode_lit (fs : List (Nat → Int)) (n N : Nat) (hn : fs.length = n) (hN : N = n * 64) (hn2 : n ≤ 1000) (p : Int) (g : Nat) (T : TypeId) (w : World) (hB : Blk w g (u8s N (polysF fs)) T)
    (hf : ∀ f ∈ fs, By f) (b : Bool) (hb : Good p fs ↔ b = true) :
    Calls Try.prog 23 #[.int .i64 p, .slice (some ⟨g, 0, none⟩) n n] w fun e w' => e = .returned (.int .i64 (codeOf b)) ∧ Below w.heap.size w w' :=
  polysCode_any (polysF fs) n n _ p w (fun j _ => polysF_in fs hf j) (by omega) (by subst hN; exact CellsAt.blk hB) b (by rw [← hb]; unfold Good; rw [← AllP_polysF, hn])
theorem l01Code_lit (fs : List (Nat → Int)) (n N : Nat) (hn : fs.length = n) (hN : N = n * 64) (hn2 : n ≤ 1000) (p : Int) (g : Nat) (T : TypeId) (w : World) (hB : Blk w g (u8s N (polysF fs)) T)
    (hf : ∀ f ∈ fs, By f) (b : Bool) (hb : Good p fs ↔ b = true) :
    Calls Try.prog 15 #[.int .i64 p, .slice (some ⟨g, 0, none⟩) n n] w fun e w' => e = .returned (.int .i64 (codeOf b)) ∧ Below w.heap.size w w' :=
  l01Code_any (polysF fs) n n _ p w (fun j _ => polysF_in fs hf j) (by omega) (by subst hN; exact CellsAt.blk hB) b (by rw [← hb]; unfold Good; rw [← AllP_polysF, hn])

theorem By.on {f : Nat → Int} (h : By f) : ∀ i, i < 64 → 0 ≤ f i ∧ f i ≤ 255 := fun i _ => h i
theorem by1 {f : Nat → Int} (h : By f) : ∀ g ∈ [f], By g := by intro g hg; rw [List.mem_singleton] at hg; subst hg; exact h

end Go.Proofs.Ytojkngdabejjdaa

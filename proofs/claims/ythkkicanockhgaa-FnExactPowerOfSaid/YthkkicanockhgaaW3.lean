/- Walks: isPoly and what it calls; the reference's l01Is. -/
import Derived.Test.YthkkicanockhgaaW2
namespace Go.Proofs.Ythkkicanockhgaa
open Go.RowKit

/-- The function value that isPoly hands to areAll, its captured p at block bp. -/
def isPolyF (bp : Nat) : Value := .func (.func 105) #[] #[.pointer (some ⟨bp, 0, none⟩)]
/-- The function value that areAll hands to ContainsFunc, its captured predicate at block bf. -/
def areAllF (bf : Nat) : Value := .func (.func 110) #[] #[.pointer (some ⟨bf, 0, none⟩)]

set_option maxHeartbeats 400000 in
theorem isPoly1_any (x p : Int) (bp : Nat) (w : World) (h0 : 0 ≤ x) (h1 : x ≤ 255) (hc : w.cell? ⟨bp, 0, none⟩ = some (.int .i64 p)) (b : Bool) (hb : decide (x < p) = b) :
    Calls Try.prog 105 #[.int .u8 x, .pointer (some ⟨bp, 0, none⟩)] w fun e w' => e = .returned (.bool b) ∧ w = w' := by
  go_enter Try.func105, Try.ntmps105
  go_wp2
  go_ret
  exact ⟨by simp [← hb], rfl⟩

set_option maxHeartbeats 400000 in
theorem areAll1_any (x p : Int) (bp bf : Nat) (w : World) (h0 : 0 ≤ x) (h1 : x ≤ 255) (hc : w.cell? ⟨bp, 0, none⟩ = some (.int .i64 p)) (hf : w.cell? ⟨bf, 0, none⟩ = some (isPolyF bp)) (b : Bool) (hb : decide (x < p) = b) :
    Calls Try.prog 110 #[.int .u8 x, .pointer (some ⟨bf, 0, none⟩)] w fun e w' => e = .returned (.bool (!b)) ∧ w = w' := by
  unfold isPolyF at hf
  go_enter Try.func110, Try.ntmps110
  go_wp2_with (go_at_call 105; refine (isPoly1_any x p bp _ h0 h1 hc b hb).mono ?_; rintro e w' ⟨rfl, rfl⟩)
  go_ret
  exact ⟨rfl, rfl⟩

/-- The answer of IndexFunc when all are good, or when one is not. -/
def IdxPost (good : Prop) (w : World) (e : Ending) (w' : World) : Prop := ∃ r : Int, e = .returned (.int .i64 r) ∧ (good → r = -1) ∧ (¬ good → 0 ≤ r) ∧ w = w'

set_option maxHeartbeats 400000 in
theorem indexFuncB_any (f : Nat → Int) (n g T : Nat) (p : Int) (bp bf : Nat) (w : World) (hf : ∀ i, i < n → 0 ≤ f i ∧ f i ≤ 255) (hn : n ≤ 1000000) (hB : Blk w g (u8s n f) T)
    (hc : w.cell? ⟨bp, 0, none⟩ = some (.int .i64 p)) (hfc : w.cell? ⟨bf, 0, none⟩ = some (isPolyF bp)) :
    Calls Try.prog 111 #[.slice (some ⟨g, 0, none⟩) n n, areAllF bf] w (IdxPost (∀ i, i < n → f i < p) w) := by
  have hfcH : Hid (w.cell? ⟨bf, 0, none⟩ = some (isPolyF bp)) := hfc
  have hfH : Hid (∀ i, i < n → 0 ≤ f i ∧ f i ≤ 255) := hf
  clear hfc hf
  unfold areAllF
  go_enter Try.func111, Try.ntmps111
  go_wp2
  go_loop [8] (fun i => ∃ k : Nat, k ≤ n ∧ i = .int .i64 k ∧ ∀ j, j < k → f j < p) (fun i => n - (intOf i).toNat)
  case atStart => exact ⟨0, by omega, rfl, fun j hj => by omega⟩
  case round =>
    obtain ⟨k, hk, rfl, hall⟩ := hrel
    have hallH := Lib.hid hall; clear hall
    by_cases hlt : k < n
    · have c0 : w.cell? ⟨g, k, none⟩ = some (.int .u8 (f k)) := by rw [hB.cell, u8s_get _ hlt]
      have hr := hfH.out k hlt
      have hr1 := hr.1
      have hr2 := hr.2
      by_cases hlp : f k < p
      · go_wp2_with (go_at_call 110; refine (areAll1_any (f k) p bp bf _ hr1 hr2 hc hfcH.out true (by simpa using hlp)).mono ?_; rintro e w' ⟨rfl, rfl⟩)
        go_round
        case rel => exact ⟨k + 1, by omega, by go_num, fun j hj => by
          by_cases e1 : j = k
          · subst e1; exact hlp
          · exact hallH.out j (by omega)⟩
        case measure => simp [intOf]; omega
      · go_wp2_with (go_at_call 110; refine (areAll1_any (f k) p bp bf _ hr1 hr2 hc hfcH.out false (by simpa using hlp)).mono ?_; rintro e w' ⟨rfl, rfl⟩)
        go_ret
        exact ⟨k, rfl, fun hg => absurd (hg k hlt) (by omega), fun _ => by omega, rfl⟩
    · obtain rfl : k = n := by omega
      go_wp2_with fail
      go_ret
      exact ⟨-1, rfl, fun _ => rfl, fun hg => absurd hallH.out hg, rfl⟩

theorem containsFuncB_any (f : Nat → Int) (n g T : Nat) (p : Int) (bp bf : Nat) (w : World) (hf : ∀ i, i < n → 0 ≤ f i ∧ f i ≤ 255) (hn : n ≤ 1000000) (hB : Blk w g (u8s n f) T)
    (hc : w.cell? ⟨bp, 0, none⟩ = some (.int .i64 p)) (hfc : w.cell? ⟨bf, 0, none⟩ = some (isPolyF bp)) (b : Bool) (hb : decide (∀ i, i < n → f i < p) = b) :
    Calls Try.prog 109 #[.slice (some ⟨g, 0, none⟩) n n, areAllF bf] w fun e w' => e = .returned (.bool (!b)) ∧ w = w' := by
  have h1 := indexFuncB_any f n g T p bp bf w hf hn hB hc hfc
  have h1 : Calls Try.prog 111 #[.slice (some ⟨g, 0, none⟩) n n, areAllF bf] w fun e w' => ∃ r : Int, e = .returned (.int .i64 r) ∧ decide (0 ≤ r) = !b ∧ w = w' := by
    refine h1.mono ?_
    rintro e w' ⟨r, rfl, h2, h3, rfl⟩
    refine ⟨r, rfl, ?_, rfl⟩
    by_cases hg : ∀ i, i < n → f i < p
    · rw [decide_eq_true hg] at hb; subst hb; have := h2 hg; simp; omega
    · rw [decide_eq_false hg] at hb; subst hb; have := h3 hg; simp; omega
  have H1 := Lib.hid h1; clear h1 hf hB hc hfc hb
  unfold areAllF at *
  go_enter Try.func109, Try.ntmps109
  go_wp2_with (go_at_call 111; refine H1.out.mono ?_; rintro e w' ⟨r, rfl, hr, rfl⟩)
  go_ret
  exact ⟨by simp, rfl⟩

set_option maxHeartbeats 400000 in
theorem areAllB_any (f : Nat → Int) (n g T : Nat) (p : Int) (bp : Nat) (w : World) (hf : ∀ i, i < n → 0 ≤ f i ∧ f i ≤ 255) (hn : n ≤ 1000000) (hB : Blk w g (u8s n f) T)
    (hc : w.cell? ⟨bp, 0, none⟩ = some (.int .i64 p)) (b : Bool) (hb : decide (∀ i, i < n → f i < p) = b) :
    Calls Try.prog 104 #[.slice (some ⟨g, 0, none⟩) n n, isPolyF bp] w fun e w' => e = .returned (.bool b) ∧ Below w.heap.size w w' := by
  have hB2 : Blk (w.alloc (.cells #[isPolyF bp] 98)) g (u8s n f) T := hB.alloc _
  have hc2 : (w.alloc (.cells #[isPolyF bp] 98)).cell? ⟨bp, 0, none⟩ = some (.int .i64 p) := by
    rw [World.cell?_alloc_past _ _ _ (block_lt_of_cell hc)]; exact hc
  have hf2 : (w.alloc (.cells #[isPolyF bp] 98)).cell? ⟨w.heap.size, 0, none⟩ = some (isPolyF bp) := by
    rw [World.cell?_alloc_at _ _ _ _ rfl]; rfl
  have h1 := containsFuncB_any f n g T p bp w.heap.size _ hf hn hB2 hc2 hf2 b hb
  have H1 := Lib.hid h1; clear h1 hf hB hc hb hB2 hc2 hf2
  unfold isPolyF at *
  go_enter Try.func104, Try.ntmps104
  go_wp2_with (go_at_call 109; refine H1.out.mono ?_; rintro e w' ⟨rfl, rfl⟩)
  go_ret
  exact ⟨by simp, (Below.refl _ _).alloc (Nat.le_refl _) _⟩

set_option maxHeartbeats 400000 in
theorem isPoly_any (f : Nat → Int) (p : Int) (w : World) (hf : ∀ i, i < 64 → 0 ≤ f i ∧ f i ≤ 255) (b : Bool) (hb : decide (∀ i : Nat, i < 64 → f i < p) = b) :
    Calls Try.prog 83 #[.int .i64 p, .agg (u8s 64 f)] w fun e w' => e = .returned (.bool b) ∧ Below w.heap.size w w' := by
  have h1 := areAllB_any f 64 (w.heap.size + 1) 23 p w.heap.size ((w.alloc (.cells #[.int .i64 p] 2)).alloc (.cells (u8s 64 f) 23)) hf (by omega)
    (by have := Blk.new (w.alloc (.cells #[.int .i64 p] 2)) (u8s 64 f) 23; simpa using this)
    (by rw [World.cell?_alloc_past _ _ _ (by simp), World.cell?_alloc_at _ _ _ _ rfl]; rfl) b hb
  have H1 := Lib.hid h1; clear h1 hf hb
  unfold isPolyF at H1
  go_enter Try.func83, Try.ntmps83
  go_wp2_with (go_at_call 104; refine H1.out.mono ?_; rintro e w' ⟨rfl, hb⟩)
  go_ret
  exact ⟨rfl, (((Below.refl _ _).alloc (Nat.le_refl _) _).alloc (by simp) _).trans (hb.mono (by simp; omega))⟩

/-- A polynomial's check as the reference has it. -/
theorem l01Is_dec (f : Nat → Int) (p : Int) (b : Bool) (hb : decide ((∀ i : Nat, i < 64 → f i < p) ∧ Pr p) = b) :
    (∀ i : Nat, i < 64 → f i < p) → decide (Pr p) = b := by
  intro h; rw [← hb]; exact decide_eq_decide.2 ⟨fun h1 => ⟨h, h1⟩, fun h1 => h1.2⟩

set_option maxHeartbeats 400000 in
theorem l01Is_any (f : Nat → Int) (p : Int) (w : World) (hf : ∀ i, i < 64 → 0 ≤ f i ∧ f i ≤ 255) (b : Bool) (hb : decide ((∀ i : Nat, i < 64 → f i < p) ∧ Pr p) = b) :
    Calls Try.prog 79 #[.int .i64 p, .agg (u8s 64 f)] w fun e w' => e = .returned (.bool b) ∧ Below w.heap.size w w' := by
  have hfH := Lib.hid hf; clear hf
  have hbH := Lib.hid hb; clear hb
  go_enter Try.func79, Try.ntmps79
  go_wp2_with fail
  have hB : Blk (w.alloc (.cells (u8s 64 f) 23)) w.heap.size (u8s 64 f) 23 := Blk.new w _ _
  go_loop [5] (fun i => ∃ k : Nat, k ≤ 64 ∧ i = .int .i64 k ∧ ∀ j, j < k → f j < p) (fun i => 64 - (intOf i).toNat)
  case atStart => exact ⟨0, by omega, rfl, fun j hj => by omega⟩
  case round =>
    obtain ⟨k, hk, rfl, hall⟩ := hrel
    have hallH := Lib.hid hall; clear hall
    by_cases hlt : k < 64
    · have c0 : (w.alloc (.cells (u8s 64 f) 23)).cell? ⟨w.heap.size, k, none⟩ = some (.int .u8 (f k)) := by rw [hB.cell, u8s_get _ hlt]
      have hr1 := (hfH.out k hlt).1
      have hr2 := (hfH.out k hlt).2
      by_cases hlp : f k < p
      · go_wp2_with fail
        go_round
        case rel => exact ⟨k + 1, by omega, by go_num, fun j hj => by
          by_cases e1 : j = k
          · subst e1; exact hlp
          · exact hallH.out j (by omega)⟩
        case measure => simp [intOf]; omega
      · have hfin : b = false := by
          rw [← hbH.out, decide_eq_false_iff_not]; exact fun h => hlp (h.1 k hlt)
        subst hfin
        go_wp2_with fail
        go_ret
        exact ⟨rfl, (Below.refl _ _).alloc (Nat.le_refl _) _⟩
    · obtain rfl : k = 64 := by omega
      have hpr := l01Is_dec f p b hbH.out hallH.out
      have hprH := Lib.hid hpr; clear hpr
      go_wp2_with (go_at_call 78; refine (l01Prime_any p _ b hprH.out).mono ?_; rintro e w' ⟨rfl, rfl⟩)
      go_ret
      exact ⟨rfl, (Below.refl _ _).alloc (Nat.le_refl _) _⟩

end Go.Proofs.Ythkkicanockhgaa

/- Walks: checks of vectors and matrices on both sides. -/
import Derived.Test.YtnkkkgaojhkniabM1
import Derived.Test.YtnkkkgaojhkniabCode
set_option linter.unusedVariables false
set_option linter.unusedSimpArgs false
namespace Go.Proofs.Ytnkkkgaojhkniab
open Go.RowKit

/-- A vector of a size: numbers modulo p, zeros from n on. -/
def RowOk (p n : Int) (f : Nat → Int) : Prop := ∀ j, j < 6 → f j < p ∧ (n ≤ (j : Int) → f j = 0)
def BadAt (p n : Int) (f : Nat → Int) (k : Nat) : Prop := p ≤ f k ∨ (n ≤ (k : Int) ∧ f k ≠ 0)
theorem RowOk_bad {p n : Int} {f : Nat → Int} {k : Nat} (hk : k < 6) (h : BadAt p n f k) : ¬ RowOk p n f := fun h1 => by
  have := h1 k hk
  rcases h with h | ⟨h, h2⟩
  · omega
  · exact h2 (this.2 h)

set_option maxHeartbeats 1000000 in
theorem isRow_any (p n : Int) (f : Nat → Int) (w : World) (hf : By f) (b : Bool) (hb : RowOk p n f ↔ b = true) :
    Calls Try.prog 58 #[.int .i64 p, .int .i64 n, .agg (u8s 6 f)] w fun e w' => e = .returned (.bool b) ∧ Below w.heap.size w w' := by
  have hfH := Lib.hid hf; clear hf
  have hbH := Lib.hid hb; clear hb
  have hB := Blk.new w (u8s 6 f) 28
  have hb0 := below_new w (.cells (u8s 6 f) 28)
  go_enter Try.func58, Try.ntmps58
  go_wp2_with (refine wpl_load_arr rfl 28 _ rfl _ rfl _ _ hB _ _ uRow sRow ?_)
  go_loop [10] (fun i => ∃ k : Nat, k ≤ 6 ∧ i = .int .i64 k ∧ ∀ j, j < k → f j < p ∧ (n ≤ (j : Int) → f j = 0)) (fun i => 6 - (intOf i).toNat)
  case atStart => exact ⟨0, by omega, rfl, fun j hj => by omega⟩
  case round =>
    obtain ⟨k, hk, rfl, hall⟩ := hrel
    have hallH := Lib.hid hall; clear hall hB
    by_cases hlt : k < 6
    · have hz := hfH.out k
      have hz1 := hz.1
      have hz2 := hz.2
      clear hz
      by_cases h1 : p ≤ f k
      · have e : b = false := by
          cases b
          · rfl
          · exact absurd (hbH.out.2 rfl) (RowOk_bad hlt (Or.inl h1))
        subst e
        go_wp2_with (refine wpl_index_arr rfl 28 _ _ rfl 6 5 (u8s 6 f) (.int .u8) rfl .i64 k rfl hlt uRow uByte rfl sByte _ (u8s_get f hlt) ?_)
        go_ret
        exact ⟨rfl, hb0⟩
      · have h1d : decide (p ≤ f k) = false := by simpa using h1
        by_cases h2 : n ≤ (k : Int)
        · by_cases h3 : f k = 0
          · have h3b : (f k != 0) = false := by simp [h3]
            have h3H := Lib.hid h3
            clear h3
            go_wp2_with (refine wpl_index_arr rfl 28 _ _ rfl 6 5 (u8s 6 f) (.int .u8) rfl .i64 k rfl hlt uRow uByte rfl sByte _ (u8s_get f hlt) ?_)
            go_round
            case rel => exact ⟨k + 1, by omega, by go_num, fun j hj => by
              by_cases e1 : j = k
              · subst e1; exact ⟨by omega, fun _ => h3H.out⟩
              · exact hallH.out j (by omega)⟩
            case measure => simp [intOf] <;> omega
          · have h3b : (f k != 0) = true := by simpa using h3
            have e : b = false := by
              cases b
              · rfl
              · exact absurd (hbH.out.2 rfl) (RowOk_bad hlt (Or.inr ⟨h2, h3⟩))
            subst e
            clear h3
            go_wp2_with (refine wpl_index_arr rfl 28 _ _ rfl 6 5 (u8s 6 f) (.int .u8) rfl .i64 k rfl hlt uRow uByte rfl sByte _ (u8s_get f hlt) ?_)
            go_ret
            exact ⟨rfl, hb0⟩
        · have h2d : decide (n ≤ (k : Int)) = false := by simpa using h2
          go_wp2_with (refine wpl_index_arr rfl 28 _ _ rfl 6 5 (u8s 6 f) (.int .u8) rfl .i64 k rfl hlt uRow uByte rfl sByte _ (u8s_get f hlt) ?_)
          go_round
          case rel => exact ⟨k + 1, by omega, by go_num, fun j hj => by
            by_cases e1 : j = k
            · subst e1; exact ⟨by omega, fun h => absurd h h2⟩
            · exact hallH.out j (by omega)⟩
          case measure => simp [intOf] <;> omega
    · obtain rfl : k = 6 := by omega
      have e : b = true := hbH.out.1 hallH.out
      subst e
      go_wp2_with fail
      go_ret
      exact ⟨rfl, hb0⟩

set_option maxHeartbeats 1000000 in
theorem l05Row_any (p n : Int) (f : Nat → Int) (w : World) (hf : By f) (b : Bool) (hb : RowOk p n f ↔ b = true) :
    Calls Try.prog 49 #[.int .i64 p, .int .i64 n, .agg (u8s 6 f)] w fun e w' => e = .returned (.bool b) ∧ Below w.heap.size w w' := by
  have hfH := Lib.hid hf; clear hf
  have hbH := Lib.hid hb; clear hb
  have hB := Blk.new w (u8s 6 f) 28
  have hb0 := below_new w (.cells (u8s 6 f) 28)
  go_enter Try.func49, Try.ntmps49
  go_wp2_with fail
  go_loop [7] (fun i => ∃ k : Nat, k ≤ 6 ∧ i = .int .i64 k ∧ ∀ j, j < k → f j < p ∧ (n ≤ (j : Int) → f j = 0)) (fun i => 6 - (intOf i).toNat)
  case atStart => exact ⟨0, by omega, rfl, fun j hj => by omega⟩
  case round =>
    obtain ⟨k, hk, rfl, hall⟩ := hrel
    have hallH := Lib.hid hall; clear hall
    by_cases hlt : k < 6
    · have c0 : (w.alloc (.cells (u8s 6 f) 28)).cell? ⟨w.heap.size, k, none⟩ = some (.int .u8 (f k)) := by rw [hB.cell, u8s_get _ hlt]
      have hz := hfH.out k
      have hz1 := hz.1
      have hz2 := hz.2
      clear hz
      by_cases h1 : p ≤ f k
      · have e : b = false := by
          cases b
          · rfl
          · exact absurd (hbH.out.2 rfl) (RowOk_bad hlt (Or.inl h1))
        subst e
        go_wp2_with fail
        go_ret
        exact ⟨rfl, hb0⟩
      · have h1d : decide (p ≤ f k) = false := by simpa using h1
        by_cases h2 : n ≤ (k : Int)
        · by_cases h3 : f k = 0
          · have h3b : (f k != 0) = false := by simp [h3]
            have h3H := Lib.hid h3
            clear h3
            go_wp2_with fail
            go_round
            case rel => exact ⟨k + 1, by omega, by go_num, fun j hj => by
              by_cases e1 : j = k
              · subst e1; exact ⟨by omega, fun _ => h3H.out⟩
              · exact hallH.out j (by omega)⟩
            case measure => simp [intOf] <;> omega
          · have h3b : (f k != 0) = true := by simpa using h3
            have e : b = false := by
              cases b
              · rfl
              · exact absurd (hbH.out.2 rfl) (RowOk_bad hlt (Or.inr ⟨h2, h3⟩))
            subst e
            clear h3
            go_wp2_with fail
            go_ret
            exact ⟨rfl, hb0⟩
        · have h2d : decide (n ≤ (k : Int)) = false := by simpa using h2
          go_wp2_with fail
          go_round
          case rel => exact ⟨k + 1, by omega, by go_num, fun j hj => by
            by_cases e1 : j = k
            · subst e1; exact ⟨by omega, fun h => absurd h h2⟩
            · exact hallH.out j (by omega)⟩
          case measure => simp [intOf] <;> omega
    · obtain rfl : k = 6 := by omega
      have e : b = true := hbH.out.1 hallH.out
      subst e
      go_wp2_with fail
      go_ret
      exact ⟨rfl, hb0⟩
end Go.Proofs.Ytnkkkgaojhkniab

/- Walks: where a row goes in a list. -/
import Derived.Test.YtnkkkgaojhkniabI2
set_option linter.unusedVariables false
set_option linter.unusedSimpArgs false
namespace Go.Proofs.Ytnkkkgaojhkniab
open Go.RowKit
def relF (bf : Nat) : Value := .func (.func 90) #[] #[.pointer (some ⟨bf, 0, none⟩)]
theorem relF_any (r : Value) (xs ys : List Int) (u : Value) (bf : Nat) (w : World) (hr : IsRow w r xs) (hu : IsRow w u ys) (hfc : w.cell? ⟨bf, 0, none⟩ = some u) :
    Calls Try.prog 90 #[r, .pointer (some ⟨bf, 0, none⟩)] w fun e w' => e = .returned (.bool (decide (xs.length < ys.length))) ∧ w = w' := by
  obtain ⟨a1, c1, rfl⟩ := hr.sl
  obtain ⟨a2, c2, rfl⟩ := hu.sl
  clear hr hu
  generalize xs.length = L1 at *
  generalize ys.length = L2 at *
  by_cases h : L1 < L2
  · rw [decide_eq_true h]
    go_enter Try.func90, Try.ntmps90
    go_wp2_with fail
    go_ret
    exact ⟨rfl, rfl⟩
  · rw [decide_eq_false h]
    go_enter Try.func90, Try.ntmps90
    go_wp2_with fail
    go_ret
    exact ⟨rfl, rfl⟩
set_option maxHeartbeats 400000 in
theorem indexL (v : Value) (n B : Nat) (R : Nat → Value) (M : Nat → List Int) (ys : List Int) (u : Value) (bf : Nat) (w : World) (h : RwsK w B v n R M) (hn : n ≤ 1000) (hu : IsRow w u ys) (hfc : w.cell? ⟨bf, 0, none⟩ = some u) :
    Calls Try.prog 89 #[v, relF bf] w fun e w' => ∃ a : Nat, a ≤ n ∧ (∀ i, i < a → ys.length ≤ (M i).length) ∧ (a < n → (M a).length < ys.length) ∧ e = .returned (.int .i64 (if a < n then (a : Int) else -1)) ∧ w = w' := by
  obtain ⟨oa, cap, rfl, _, hcm, hcell⟩ := h.at
  unfold maxLen at hcm
  have hcH := Lib.hid hcell
  have hR := Lib.hid h.row
  have H1 := Lib.hid (fun r xs (hr : IsRow w r xs) => relF_any r xs ys u bf w hr hu hfc)
  clear h hcell hu hfc
  obtain ⟨Y, hY⟩ : ∃ Y, ys.length = Y := ⟨_, rfl⟩
  rw [hY] at H1 ⊢
  clear hY
  unfold relF
  go_enter Try.func89, Try.ntmps89
  go_wp2
  go_loopw [8] (fun i wr => ∃ k : Nat, k ≤ n ∧ i = .int .i64 k ∧ Hid (∀ j, j < k → Y ≤ (M j).length) ∧ w = wr) (fun i _ => n - (intOf i).toNat)
  case atStart => exact ⟨0, by omega, rfl, Lib.hid fun j hj => absurd hj (by omega), rfl⟩
  case round =>
    obtain ⟨k, hk, rfl, hall, rfl⟩ := hrel
    by_cases hlt : k < n
    · obtain ⟨g, rfl, _, hc⟩ := hcH.out (by omega)
      have c0 := hc k hlt
      have hRk := hR.out k hlt
      have hf := H1.out (R k) (M k) hRk
      obtain ⟨a1, c1, hsl⟩ := hRk.sl
      rw [hsl] at c0 hf
      have hfH := Lib.hid hf
      clear hc hRk hsl hf
      by_cases hlen : (M k).length < Y
      · rw [decide_eq_true hlen] at hfH
        have hlH := Lib.hid hlen
        clear hlen
        go_wp2_with fail
        refine hfH.out.mono ?_
        rintro e u1 ⟨rfl, rfl⟩
        go_wp2_with fail
        go_ret
        exact ⟨k, by omega, hall.out, fun _ => hlH.out, by rw [if_pos hlt]; rfl, rfl⟩
      · rw [decide_eq_false hlen] at hfH
        have hlH := Lib.hid hlen
        clear hlen
        go_wp2_with fail
        refine hfH.out.mono ?_
        rintro e u1 ⟨rfl, rfl⟩
        go_wp2_with fail
        go_roundw
        case rel =>
          refine ⟨k + 1, by omega, by go_num, Lib.hid fun j hj => ?_, by first | rfl | trivial⟩
          by_cases e1 : j = k
          · subst e1; have := hlH.out; omega
          · exact hall.out j (by omega)
        case measure => simp [intOf]; omega
    · obtain rfl : k = n := by omega
      go_wp2_with fail
      go_ret
      exact ⟨k, by omega, hall.out, fun h => absurd h (by omega), by rw [if_neg (by omega)]; rfl, rfl⟩
end Go.Proofs.Ytnkkkgaojhkniab

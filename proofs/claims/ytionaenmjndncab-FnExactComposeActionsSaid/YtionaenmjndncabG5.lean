/- Walks: lists of rows that grow; rows, place. -/
import Derived.Test.YtionaenmjndncabG4
set_option linter.unusedVariables false
set_option linter.unusedSimpArgs false
namespace Go.Proofs.Ytionaenmjndncab
open Go.RowKit
/-- A list of rows of the call's own. -/
def RwO (w : World) (B : Nat) (v : Value) (n : Nat) (R : Nat → Value) (M : Nat → List Int) : Prop := w.ownsRow B 48 1 v n ((List.range n).map R) ∧ ∀ i, i < n → IsRow w (R i) (M i)
theorem RwO.below {w w' : World} {B : Nat} {v : Value} {n : Nat} {R : Nat → Value} {M : Nat → List Int} (h : RwO w B v n R M) (hb : Below w.heap.size w w') : RwO w' B v n R M := ⟨owns_below' h.1 hb, fun i hi => (h.2 i hi).below hb⟩
theorem RwO.at {w : World} {B : Nat} {v : Value} {n : Nat} {R : Nat → Value} {M : Nat → List Int} (h : RwO w B v n R M) : ∃ oa cap, v = .slice oa n cap ∧ (0 < n → ∃ g, oa = some ⟨g, 0, none⟩ ∧ B ≤ g ∧ ∀ i, i < n → w.cell? ⟨g, i, none⟩ = some (R i)) := by
  rcases h.1.2 with ⟨rfl, rfl⟩ | ⟨g, cap, cur, rfl, hB, _⟩
  · exact ⟨none, 0, rfl, fun h => absurd h (by omega)⟩
  · exact ⟨_, cap, rfl, fun _ => ⟨g, rfl, hB, fun i hi => by rw [World.ownsRow.cellAt h.1 i (by omega), List.getElem?_map, List.getElem?_range hi]; rfl⟩⟩
theorem place_any (v : Value) (n B : Nat) (R : Nat → Value) (M : Nat → List Int) (w : World) (h : RwO w B v n R M) (hn : n ≤ 10000000) (i : Nat) (hi : i ≤ 10000000) (hM : ∀ j, n ≤ j → M j = []) :
    Calls Try.prog 47 #[v, .int .i64 (i : Int)] w fun e w' => ∃ r, e = .returned r ∧ IsRow w' r (M i) ∧ w = w' := by
  obtain ⟨oa, cap, rfl, hc⟩ := h.at
  have hR := Lib.hid h.2
  have hMH := Lib.hid hM
  clear h hM
  by_cases hlt : i < n
  · obtain ⟨g, rfl, _, hcl⟩ := hc (by omega)
    have c0 := hcl i hlt
    obtain ⟨a1, m1, c1, hsl⟩ := (hR.out i hlt).isSlice
    have hr := Lib.hid (hR.out i hlt)
    rw [hsl] at c0 hr
    clear hcl hsl hc
    go_enter Try.func47, Try.ntmps47
    go_wp2_with fail
    go_ret
    exact ⟨_, rfl, hr.out, rfl⟩
  · clear hc
    go_enter Try.func47, Try.ntmps47
    go_wp2_with fail
    go_ret
    exact ⟨_, rfl, by rw [hMH.out i (by omega)]; exact IsRow_nil w, rfl⟩
end Go.Proofs.Ytionaenmjndncab

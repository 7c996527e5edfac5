/- Walks: the codes of lists that a call writes out; DegreeOf on both sides. -/
import Derived.Test.YthkkicanockhgaaW6
namespace Go.Proofs.Ythkkicanockhgaa
open Go.RowKit

/-- All coefficients of all polynomials are numbers modulo p, and p is a prime. -/
def Good (p : Int) (fs : List (Nat → Int)) : Prop := Pr p ∧ ∀ f ∈ fs, ∀ i, i < 64 → f i < p
/-- Bytes. -/
def By (f : Nat → Int) : Prop := ∀ i, 0 ≤ f i ∧ f i ≤ 255

theorem polysF_in (fs : List (Nat → Int)) (hf : ∀ f ∈ fs, By f) (j : Nat) : 0 ≤ polysF fs j ∧ polysF fs j ≤ 255 := by
  unfold polysF
  by_cases h : j / 64 < fs.length
  · rw [List.getD_eq_getElem?_getD, List.getElem?_eq_getElem h]
    exact hf _ (List.getElem_mem h) _
  · rw [List.getD_eq_getElem?_getD, List.getElem?_eq_none (by omega)]
    show (0 : Int) ≤ 0 ∧ (0 : Int) ≤ 255
    omega
theorem AllP_polysF (p : Int) (fs : List (Nat → Int)) : AllP fs.length (polysF fs) p ↔ ∀ f ∈ fs, ∀ i, i < 64 → f i < p := by
  rw [AllP_iff]
  have e : ∀ i (hi : i < fs.length) q, q < 64 → polysF fs (i * 64 + q) = fs[i] q := by
    intro i hi q hq
    unfold polysF
    rw [show (i * 64 + q) / 64 = i by omega, show (i * 64 + q) % 64 = q by omega, List.getD_eq_getElem?_getD, List.getElem?_eq_getElem hi]; rfl
  constructor
  · intro h f hf q hq
    obtain ⟨i, hi, rfl⟩ := List.mem_iff_getElem.1 hf
    rw [← e i hi q hq]; exact h i hi q hq
  · intro h i hi q hq
    rw [e i hi q hq]; exact h _ (List.getElem_mem hi) q hq

theorem polysCode_lit (fs : List (Nat → Int)) (n N : Nat) (hn : fs.length = n) (hN : N = n * 64) (hn2 : n ≤ 1000) (p : Int) (g : Nat) (T : TypeId) (w : World) (hB : Blk w g (u8s N (polysF fs)) T)
    (hf : ∀ f ∈ fs, By f) (b : Bool) (hb : Good p fs ↔ b = true) :
    Calls Try.prog 46 #[.int .i64 p, .slice (some ⟨g, 0, none⟩) n n] w fun e w' => e = .returned (.int .i64 (codeOf b)) ∧ Below w.heap.size w w' :=
  polysCode_any (polysF fs) n n _ p w (fun j _ => polysF_in fs hf j) (by omega) (by subst hN; exact CellsAt.blk hB) b (by rw [← hb]; unfold Good; rw [← AllP_polysF, hn])
theorem l01Code_lit (fs : List (Nat → Int)) (n N : Nat) (hn : fs.length = n) (hN : N = n * 64) (hn2 : n ≤ 1000) (p : Int) (g : Nat) (T : TypeId) (w : World) (hB : Blk w g (u8s N (polysF fs)) T)
    (hf : ∀ f ∈ fs, By f) (b : Bool) (hb : Good p fs ↔ b = true) :
    Calls Try.prog 44 #[.int .i64 p, .slice (some ⟨g, 0, none⟩) n n] w fun e w' => e = .returned (.int .i64 (codeOf b)) ∧ Below w.heap.size w w' :=
  l01Code_any (polysF fs) n n _ p w (fun j _ => polysF_in fs hf j) (by omega) (by subst hN; exact CellsAt.blk hB) b (by rw [← hb]; unfold Good; rw [← AllP_polysF, hn])

theorem By.on {f : Nat → Int} (h : By f) : ∀ i, i < 64 → 0 ≤ f i ∧ f i ≤ 255 := fun i _ => h i
theorem by1 {f : Nat → Int} (h : By f) : ∀ g ∈ [f], By g := by intro g hg; rw [List.mem_singleton] at hg; subst hg; exact h

end Go.Proofs.Ythkkicanockhgaa

/- Walks: rows in blocks of slices; what stays where another block is written. -/
import Derived.OwnWalk
import Derived.Laws.OwnMore
import Derived.Test.YtojkngdabejjdaaCmn
import Derived.Test.YtojkngdabejjdaaRegs
set_option linter.unusedVariables false
set_option linter.unusedSimpArgs false
namespace Go.Proofs.Ytojkngdabejjdaa
open Go.RowKit
theorem uRowK : Try.prog.underlying 33 = some (.slice 2) := by kernel_rfl
theorem sRowK : (Try.prog.info? 33).map (·.size) = some 1 := by kernel_rfl
theorem iRowK : (Try.prog.info? 33).map (fun i => (i.zero, i.size, i.bytes)) = some (some (.slice none 0 0), 1, 24) := by kernel_rfl
theorem grownK_trans {w w' w'' : World} {row : Option Nat} (h : w.grownBy w' row) (h' : w'.grownBy w'' row) : w.grownBy w'' row :=
  ⟨h'.os.trans h.os, h'.tape.trans h.tape, h'.output.trans h.output, Nat.le_trans h.size h'.size, fun k hk hne => (h'.block k (Nat.lt_of_lt_of_le hk h.size) hne).trans (h.block k hk hne)⟩
theorem belowK_grown {w w' : World} (h : Below w.heap.size w w') (row : Option Nat) : w.grownBy w' row := ⟨h.os, h.tape, h.output, h.size, fun k hk _ => h.block k hk⟩
theorem grownK_below {B : Nat} {w w' : World} {row : Option Nat} (hg : w.grownBy w' row) (hr : ∀ k, row = some k → B ≤ k) (hs : B ≤ w.heap.size) : Below B w w' := (Below.refl B w).grown hg hs hr
theorem ownsK_below {B : Nat} {e : TypeId} {k : Nat} {v : Value} {n : Nat} {xs : List Value} {w w' : World} (h : w.ownsRow B e k v n xs) (hb : Below w.heap.size w w') : w'.ownsRow B e k v n xs := World.ownsRow.kept h (belowK_grown hb none) (by
  cases hv : v.ownBlock with
  | none => exact .inl rfl
  | some k => exact .inr (by simp))
/-- All cells hold slices. -/
def AllS (cur : Array Value) : Prop := ∀ (i : Nat) (v : Value), cur[i]? = some v → ∃ a n c, v = .slice a n c
/-- A block of slices. -/
def SBlk (w : World) (g : Nat) : Prop := ∀ (i : Nat) (v : Value), w.cell? ⟨g, i, none⟩ = some v → ∃ a n c, v = .slice a n c
theorem SBlk.of_heap {w : World} {g : Nat} {cur : Array Value} {t : TypeId} (h : w.heap[g]? = some (.cells cur t (0, 0))) (hS : AllS cur) : SBlk w g := fun i v hv => by
  rw [cell_of_row w g i cur _ _ h] at hv; exact hS i v hv
theorem SBlk.kept {w w' : World} {g : Nat} {row : Option Nat} (h : SBlk w g) (hl : g < w.heap.size) (hg : w.grownBy w' row) (hne : some g ≠ row) : SBlk w' g := fun i v hv => by
  rw [World.cell?_of_block (a := ⟨g, i, none⟩) (hg.block g hl hne)] at hv; exact h i v hv
theorem IsRow.keptS {w w' : World} {v : Value} {xs : List Int} {row : Option Nat} (h : IsRow w v xs) (hg : w.grownBy w' row) (hB : ∀ g, row = some g → SBlk w g) : IsRow w' v xs := by
  obtain ⟨oa, cap, rfl, h2, h3, h4⟩ := h
  refine ⟨oa, cap, rfl, h2, h3, fun hl => ?_⟩
  obtain ⟨b, off, rfl, h6⟩ := h4 hl
  refine ⟨b, off, rfl, fun i hi => hg.cell (h6 i hi) fun e => ?_⟩
  obtain ⟨a, n, c, h7⟩ := hB b e.symm _ _ (h6 i hi)
  cases h7
theorem IsRow.sl {w : World} {v : Value} {xs : List Int} (h : IsRow w v xs) : ∃ a c, v = .slice a xs.length c := by
  obtain ⟨oa, cap, h1, _⟩ := h; exact ⟨oa, cap, h1⟩
theorem IsRow.one {w : World} {v : Value} {xs : List Int} (h : IsRow w v xs) : v.oneCell' = true := by
  obtain ⟨a, c, rfl⟩ := h.sl; rfl
/-- A list of rows of the call's own, in a block of slices. -/
structure RwsK (w : World) (B : Nat) (v : Value) (n : Nat) (R : Nat → Value) (M : Nat → List Int) : Prop where
  own : w.ownsRow B 33 1 v n ((List.range n).map R)
  sb : ∀ g, v.ownBlock = some g → SBlk w g
  row : ∀ i, i < n → IsRow w (R i) (M i)
theorem RwsK.kept {w w' : World} {B : Nat} {v : Value} {n : Nat} {R : Nat → Value} {M : Nat → List Int} {row : Option Nat} (h : RwsK w B v n R M) (hg : w.grownBy w' row) (hB : ∀ g, row = some g → SBlk w g) (hne : v.ownBlock = none ∨ v.ownBlock ≠ row) : RwsK w' B v n R M := by
  refine ⟨World.ownsRow.kept h.own hg hne, fun g hv => (h.sb g hv).kept (h.own.lt g hv).2 hg fun e => ?_, fun i hi => (h.row i hi).keptS hg hB⟩
  rcases hne with h1 | h1
  · rw [h1] at hv; cases hv
  · exact h1 (hv.trans e)
theorem RwsK.below {w w' : World} {B : Nat} {v : Value} {n : Nat} {R : Nat → Value} {M : Nat → List Int} (h : RwsK w B v n R M) (hb : Below w.heap.size w w') : RwsK w' B v n R M :=
  h.kept (belowK_grown hb none) (fun g e => by cases e) (by
    cases hv : v.ownBlock with
    | none => exact .inl rfl
    | some k => exact .inr (by simp))
theorem RwsK.at {w : World} {B : Nat} {v : Value} {n : Nat} {R : Nat → Value} {M : Nat → List Int} (h : RwsK w B v n R M) : ∃ oa cap, v = .slice oa n cap ∧ n ≤ cap ∧ cap ≤ maxLen ∧ (0 < n → ∃ g, oa = some ⟨g, 0, none⟩ ∧ B ≤ g ∧ ∀ i, i < n → w.cell? ⟨g, i, none⟩ = some (R i)) := by
  rcases h.own.2 with ⟨rfl, rfl⟩ | ⟨g, cap, cur, rfl, hB, _, hnc, hcm, _⟩
  · exact ⟨none, 0, rfl, Nat.le_refl _, Nat.zero_le _, fun h => absurd h (by omega)⟩
  · exact ⟨_, cap, rfl, hnc, hcm, fun _ => ⟨g, rfl, hB, fun i hi => by rw [World.ownsRow.cellAt h.own i (by omega), List.getElem?_map, List.getElem?_range hi]; rfl⟩⟩
theorem RwsK.nil (w : World) (B : Nat) (R : Nat → Value) (M : Nat → List Int) : RwsK w B (.slice none 0 0) 0 R M := ⟨World.ownsRow_nil _ _ _ _, fun g e => (by cases e), fun i hi => absurd hi (by omega)⟩
end Go.Proofs.Ytojkngdabejjdaa

/- Walks: a matrix of polynomials as a slice of slices of rows. No program in sight but its types. -/
import Derived.Test.YtnkkkgaojhkniabRB
import Derived.Test.YtnkkkgaojhkniabM8
import Derived.Test.YtnkkkgaojhkniabPuC
set_option linter.unusedVariables false
set_option linter.unusedSimpArgs false
namespace Go.Proofs.Ytnkkkgaojhkniab
open Go.RowKit
theorem uMatT : Try.prog.underlying 77 = some (.slice 49) := by kernel_rfl
theorem uLinT : Try.prog.underlying 49 = some (.slice 55) := by kernel_rfl
theorem uEntT : Try.prog.underlying 55 = some (.slice 2) := by kernel_rfl
theorem sLinT : (Try.prog.info? 49).map (·.size) = some 1 := by kernel_rfl
theorem sEntT : (Try.prog.info? 55).map (·.size) = some 1 := by kernel_rfl

/-- A slice of n lines, each a slice of n rows in a block of its own. -/
structure MatB (w : World) (B U g n : Nat) (b c : Nat → Nat) (R : Nat → Nat → Value) (M : MxL) : Prop where
  out : Blk w g (arr n fun i => .slice (some ⟨b i, 0, none⟩) n (c i)) 49
  hg : B ≤ g
  hb : ∀ i, i < n → B ≤ b i
  up : g < U
  upb : ∀ i, i < n → b i < U
  cap : ∀ i, i < n → n ≤ c i ∧ c i ≤ maxLen
  inj : ∀ i j, i < n → j < n → i ≠ j → b i ≠ b j
  inn : ∀ i, i < n → Blk w (b i) (arr (c i) (R i)) 55
  sl : ∀ i j, ∃ a m k, R i j = .slice a m k
  row : ∀ i j, i < n → j < n → IsRow w (R i j) (M i j)
theorem MatB.ne {w : World} {B U g n : Nat} {b c : Nat → Nat} {R : Nat → Nat → Value} {M : MxL} (h : MatB w B U g n b c R M) {i : Nat} (hi : i < n) : b i ≠ g := fun e => by
  have h1 := h.inn i hi
  have h2 := h.out
  unfold Blk at h1 h2
  rw [e] at h1
  rw [h1] at h2
  injection h2 with h2; injection h2 with _ h3
  exact absurd h3 (by decide)
theorem MatB.below {w w' : World} {B U g n : Nat} {b c : Nat → Nat} {R : Nat → Nat → Value} {M : MxL} (h : MatB w B U g n b c R M) (hb : Below w.heap.size w w') : MatB w' B U g n b c R M :=
  ⟨h.out.keep hb, h.hg, h.hb, h.up, h.upb, h.cap, h.inj, fun i hi => (h.inn i hi).keep hb, h.sl, fun i j hi hj => (h.row i j hi hj).below hb⟩
theorem MatB.cell1 {w : World} {B U g n : Nat} {b c : Nat → Nat} {R : Nat → Nat → Value} {M : MxL} (h : MatB w B U g n b c R M) {i : Nat} (hi : i < n) : w.cell? ⟨g, i, none⟩ = some (.slice (some ⟨b i, 0, none⟩) n (c i)) := by
  rw [h.out.cell]; exact arr_get_lt _ hi
theorem MatB.cell2 {w : World} {B U g n : Nat} {b c : Nat → Nat} {R : Nat → Nat → Value} {M : MxL} (h : MatB w B U g n b c R M) {i j : Nat} (hi : i < n) (hj : j < n) : w.cell? ⟨b i, j, none⟩ = some (R i j) := by
  rw [(h.inn i hi).cell]; exact arr_get_lt _ (Nat.lt_of_lt_of_le hj (h.cap i hi).1)
theorem MatB.congr {w : World} {B U g n : Nat} {b c : Nat → Nat} {R : Nat → Nat → Value} {M M' : MxL} (h : MatB w B U g n b c R M) (e : ∀ i j, i < n → j < n → M i j = M' i j) : MatB w B U g n b c R M' :=
  ⟨h.out, h.hg, h.hb, h.up, h.upb, h.cap, h.inj, h.inn, h.sl, fun i j hi hj => e i j hi hj ▸ h.row i j hi hj⟩
/-- One entry stored. -/
def updR {α : Type} (R : Nat → Nat → α) (i j : Nat) (v : α) : Nat → Nat → α := fun x y => if x = i ∧ y = j then v else R x y
theorem updR_at {α : Type} (R : Nat → Nat → α) (i j : Nat) (v : α) : updR R i j v i j = v := if_pos ⟨rfl, rfl⟩
theorem updR_ne {α : Type} (R : Nat → Nat → α) {i j x y : Nat} (v : α) (h : ¬ (x = i ∧ y = j)) : updR R i j v x y = R x y := if_neg h
theorem MatB.store {w : World} {B U g n : Nat} {b c : Nat → Nat} {R : Nat → Nat → Value} {M : MxL} (h : MatB w B U g n b c R M) {i j : Nat} (hi : i < n) (hj : j < n) {v : Value} {xs : List Int} (hv : IsRow w v xs) :
    MatB (w.setRow (b i) (arr (c i) fun q => if q = j then v else R i q)) B U g n b c (updR R i j v) (updR M i j xs) := by
  obtain ⟨va, vm, vk, hvs⟩ := hv.isSlice
  have hrow : ∀ (r : Value) (ys : List Int), IsRow w r ys → IsRow (w.setRow (b i) (arr (c i) fun q => if q = j then v else R i q)) r ys := fun r ys hr => hr.setB (h.inn i hi) (fun q _ => h.sl i q) _
  refine ⟨h.out.setRow_other (Ne.symm (h.ne hi)), h.hg, h.hb, h.up, h.upb, h.cap, h.inj, fun x hx => ?_, fun x y => ?_, fun x y hx hy => ?_⟩
  · by_cases e : x = i
    · subst e
      have := (h.inn x hx).setRow_same (cs := arr (c x) fun q => if q = j then v else R x q)
      have e2 : (updR R x j v x) = fun q => if q = j then v else R x q := by
        funext q; unfold updR
        by_cases hq : q = j
        · rw [if_pos ⟨rfl, hq⟩, if_pos hq]
        · rw [if_neg (fun h => hq h.2), if_neg hq]
      rw [e2]; exact this
    · have e2 : updR R i j v x = R x := by funext q; exact updR_ne R v fun h => e h.1
      rw [e2]; exact (h.inn x hx).setRow_other (h.inj x i hx hi e)
  · by_cases e : x = i ∧ y = j
    · obtain ⟨rfl, rfl⟩ := e; rw [updR_at]; exact ⟨_, _, _, hvs⟩
    · rw [updR_ne R v e]; exact h.sl x y
  · by_cases e : x = i ∧ y = j
    · obtain ⟨rfl, rfl⟩ := e; rw [updR_at, updR_at]; exact hrow _ _ hv
    · rw [updR_ne R v e, updR_ne M xs e]; exact hrow _ _ (h.row x y hx hy)
/-- Two lines exchanged. -/
theorem MatB.lines {w w' : World} {B U g n : Nat} {b c : Nat → Nat} {R : Nat → Nat → Value} {M : MxL} (h : MatB w B U g n b c R M) {k i : Nat} (hk : k < n) (hi : i < n) (hw : Blk w' g (arr n fun x => .slice (some ⟨b (swp k i x), 0, none⟩) n (c (swp k i x))) 49)
    (hinn : ∀ x, x < n → Blk w' (b x) (arr (c x) (R x)) 55) (hrow : ∀ x y, x < n → y < n → IsRow w' (R x y) (M x y)) :
    MatB w' B U g n (fun x => b (swp k i x)) (fun x => c (swp k i x)) (fun x y => R (swp k i x) y) (fun x y => M (swp k i x) y) := by
  have hs : ∀ x, x < n → swp k i x < n := fun x hx => swp_S (S := (· < n)) hk hi hx
  refine ⟨hw, h.hg, fun x hx => h.hb _ (hs x hx), h.up, fun x hx => h.upb _ (hs x hx), fun x hx => h.cap _ (hs x hx), fun x y hx hy hne => h.inj _ _ (hs x hx) (hs y hy) fun e => hne ?_, fun x hx => hinn _ (hs x hx), fun x y => h.sl _ _, fun x y hx hy => hrow _ _ (hs x hx) hy⟩
  have := congrArg (swp k i) e
  rwa [swp_swp, swp_swp] at this
/-- A matrix in memory that is laid behind B. -/
def IsMat (w : World) (B U g n : Nat) (M : MxL) : Prop := ∃ b c R, MatB w B U g n b c R M
theorem IsMat.below {w w' : World} {B U g n : Nat} {M : MxL} (h : IsMat w B U g n M) (hb : Below w.heap.size w w') : IsMat w' B U g n M := by
  obtain ⟨b, c, R, h⟩ := h; exact ⟨b, c, R, h.below hb⟩
theorem IsMat.congr {w : World} {B U g n : Nat} {M M' : MxL} (h : IsMat w B U g n M) (e : ∀ i j, i < n → j < n → M i j = M' i j) : IsMat w B U g n M' := by
  obtain ⟨b, c, R, h⟩ := h; exact ⟨b, c, R, h.congr e⟩
/-- A change of one block of slices leaves rows as they are. -/
theorem IsRow.upd {w w' : World} {r : Value} {xs : List Int} {g n : Nat} {R : Nat → Value} {T : TypeId} (h : IsRow w r xs) (hB : Blk w g (arr n R) T) (hR : ∀ i, i < n → ∃ a m c, R i = .slice a m c) (hu : ∀ k, k ≠ g → w'.heap[k]? = w.heap[k]?) : IsRow w' r xs := by
  obtain ⟨oa, cap, h1, h2, h3, h4⟩ := h
  refine ⟨oa, cap, h1, h2, h3, fun hl => ?_⟩
  obtain ⟨b, off, e, hc⟩ := h4 hl
  refine ⟨b, off, e, fun i hi => ?_⟩
  by_cases hbg : b = g
  · subst hbg
    have h5 := hc i hi
    rw [hB.cell, arr_get] at h5
    split at h5
    · rename_i h6
      obtain ⟨a, m, c, h7⟩ := hR _ h6
      rw [h7] at h5
      cases h5
    · cases h5
  · have h5 := hc i hi
    rw [← h5]
    exact World.cell?_of_block (hu b hbg)
/-- What lies below B stands, and what lies from U on, and all rows. -/
structure Kept (B U : Nat) (w w' : World) : Prop where
  bel : Below B w w'
  up : ∀ k, U ≤ k → k < w.heap.size → w'.heap[k]? = w.heap[k]?
  rows : ∀ r xs, IsRow w r xs → IsRow w' r xs
theorem Kept.refl (B U : Nat) (w : World) : Kept B U w w := ⟨Below.refl _ _, fun _ _ _ => rfl, fun _ _ h => h⟩
theorem Kept.trans {B U : Nat} {a b c : World} (h : Kept B U a b) (k : Kept B U b c) : Kept B U a c := ⟨h.bel.trans k.bel, fun q h1 h2 => (k.up q h1 (Nat.lt_of_lt_of_le h2 h.bel.size)).trans (h.up q h1 h2), fun r xs hr => k.rows r xs (h.rows r xs hr)⟩
theorem Kept.below {B U : Nat} {a b c : World} (h : Kept B U a b) (hB : B ≤ b.heap.size) (k : Below b.heap.size b c) : Kept B U a c := h.trans ⟨k.mono hB, fun q _ h2 => k.block q h2, fun r xs hr => hr.below k⟩
theorem Kept.upd {B U : Nat} {a w w' : World} {g n : Nat} {R : Nat → Value} {T : TypeId} (h : Kept B U a w) (hbel : Below B w w') (hu : ∀ k, k ≠ g → w'.heap[k]? = w.heap[k]?) (hg : g < U) (hB : Blk w g (arr n R) T) (hR : ∀ i, i < n → ∃ a m c, R i = .slice a m c) : Kept B U a w' :=
  h.trans ⟨hbel, fun k h1 _ => hu k (by omega), fun r xs hr => hr.upd hB hR hu⟩
theorem Kept.setRow {B U : Nat} {a w : World} {g n : Nat} {R : Nat → Value} {T : TypeId} (h : Kept B U a w) (hg : B ≤ g) (hu : g < U) (hB : Blk w g (arr n R) T) (hR : ∀ i, i < n → ∃ a m c, R i = .slice a m c) (cs : Array Value) : Kept B U a (w.setRow g cs) :=
  h.upd (below_setRow (Below.refl _ _) hg cs) (fun k hk => _root_.Go.setRow_other w g k cs hk) hu hB hR
theorem Kept.drew {B U : Nat} {a w : World} (h : Kept B U a w) : Kept B U a w.drew := ⟨h.bel.drew, h.up, fun r xs hr => (h.rows r xs hr).below (Below.refl _ _).drew⟩
end Go.Proofs.Ytnkkkgaojhkniab

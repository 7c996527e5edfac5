/- Values and memory: arrays of cells told by functions, slices that read as lists of numbers. No program in sight. -/
import Derived.WalkKit
import Derived.WalkSpells
import Derived.WalkLawsBesides
import Derived.Deep.MidRow
import Derived.Lib.Hide
import Derived.Test.YthkkicanockhgaaPlain
namespace Go.Proofs.Ythkkicanockhgaa
open Go.RowKit

/-- n cells, told by a function. -/
def arr (n : Nat) (f : Nat → Value) : Array Value := ((List.range n).map f).toArray
theorem arr_size (n : Nat) (f : Nat → Value) : (arr n f).size = n := by simp [arr]
theorem arr_get (n : Nat) (f : Nat → Value) (i : Nat) : (arr n f)[i]? = if i < n then some (f i) else none := by
  unfold arr
  rw [List.getElem?_toArray, List.getElem?_map]
  by_cases h : i < n
  · rw [if_pos h, List.getElem?_range h]; rfl
  · rw [if_neg h, List.getElem?_eq_none (by simpa using h)]; rfl
theorem arr_get_lt {n : Nat} (f : Nat → Value) {i : Nat} (h : i < n) : (arr n f)[i]? = some (f i) := by rw [arr_get, if_pos h]
theorem arr_ext {n : Nat} {f g : Nat → Value} (h : ∀ i, i < n → f i = g i) : arr n f = arr n g := by
  unfold arr
  rw [List.map_congr_left (fun i hi => h i (by simpa using hi))]
theorem arr_set (n : Nat) (f : Nat → Value) (i : Nat) (v : Value) : (arr n f).setIfInBounds i v = arr n (fun j => if j = i then v else f j) := by
  apply Array.ext_getElem?
  intro j
  rw [Array.getElem?_setIfInBounds, arr_get, arr_get, arr_size]
  by_cases hj : j < n
  · by_cases e : i = j
    · subst e; simp [hj]
    · simp [hj, e, Ne.symm e]
  · by_cases e : i = j
    · subst e; simp [hj]
    · simp [hj, e]
theorem arr_list (n : Nat) (f : Nat → Value) : (arr n f).toList = (List.range n).map f := by simp [arr]
/-- An array is told by its cells. -/
theorem eq_arr {A : Array Value} {n : Nat} {f : Nat → Value} (hs : A.size = n) (h : ∀ i, i < n → A[i]? = some (f i)) : A = arr n f := by
  apply Array.ext_getElem?
  intro j
  rw [arr_get]
  split
  · exact h j ‹_›
  · rw [Array.getElem?_eq_none (by omega)]
theorem arr_oneCell (n : Nat) (f : Nat → Value) (h : ∀ i, i < n → (f i).oneCell' = true) : (arr n f).all (·.oneCell') = true := by
  rw [Array.all_eq_true_iff_forall_mem]
  intro v hv
  rw [arr, List.mem_toArray, List.mem_map] at hv
  obtain ⟨i, hi, rfl⟩ := hv
  exact h i (by simpa using hi)

/-- n bytes, n int64s. -/
def u8s (n : Nat) (f : Nat → Int) : Array Value := arr n fun i => .int .u8 (f i)
def i64s (n : Nat) (f : Nat → Int) : Array Value := arr n fun i => .int .i64 (f i)
theorem u8s_size (n : Nat) (f : Nat → Int) : (u8s n f).size = n := arr_size _ _
theorem i64s_size (n : Nat) (f : Nat → Int) : (i64s n f).size = n := arr_size _ _
theorem u8s_get {n i : Nat} (f : Nat → Int) (h : i < n) : (u8s n f)[i]? = some (.int .u8 (f i)) := arr_get_lt _ h
theorem i64s_get {n i : Nat} (f : Nat → Int) (h : i < n) : (i64s n f)[i]? = some (.int .i64 (f i)) := arr_get_lt _ h
theorem u8s_ext {n : Nat} {f g : Nat → Int} (h : ∀ i, i < n → f i = g i) : u8s n f = u8s n g := arr_ext fun i hi => by rw [h i hi]
theorem i64s_ext {n : Nat} {f g : Nat → Int} (h : ∀ i, i < n → f i = g i) : i64s n f = i64s n g := arr_ext fun i hi => by rw [h i hi]
theorem u8s_set (n : Nat) (f : Nat → Int) (i : Nat) (v : Int) : (u8s n f).setIfInBounds i (.int .u8 v) = u8s n (fun j => if j = i then v else f j) := by
  unfold u8s; rw [arr_set]; apply arr_ext; intro j _; by_cases e : j = i <;> simp [e]
theorem i64s_set (n : Nat) (f : Nat → Int) (i : Nat) (v : Int) : (i64s n f).setIfInBounds i (.int .i64 v) = i64s n (fun j => if j = i then v else f j) := by
  unfold i64s; rw [arr_set]; apply arr_ext; intro j _; by_cases e : j = i <;> simp [e]
theorem u8s_oneCell (n : Nat) (f : Nat → Int) : (u8s n f).all (·.oneCell') = true := arr_oneCell _ _ fun _ _ => rfl
theorem i64s_oneCell (n : Nat) (f : Nat → Int) : (i64s n f).all (·.oneCell') = true := arr_oneCell _ _ fun _ _ => rfl

/-- A polynomial as the program's array of 64 bytes. -/
def polyV (a : List Int) : Value := .agg (u8s 64 (cf a))

/-- Block g holds these cells, and may be written. -/
def Blk (w : World) (g : Nat) (cs : Array Value) (t : TypeId) : Prop := w.heap[g]? = some (.cells cs t (0, 0))

theorem Blk.lt {w : World} {g : Nat} {cs : Array Value} {t : TypeId} (h : Blk w g cs t) : g < w.heap.size := by
  unfold Blk at h
  exact (Array.getElem?_eq_some_iff.1 h).1
theorem Blk.cell {w : World} {g : Nat} {cs : Array Value} {t : TypeId} (h : Blk w g cs t) (i : Nat) : w.cell? ⟨g, i, none⟩ = cs[i]? := cell_of_row w g i cs t _ h
theorem Blk.free {w : World} {g : Nat} {cs : Array Value} {t : TypeId} (h : Blk w g cs t) (i : Nat) : w.frozen? ⟨g, i, none⟩ = false := frozen_of_row w g i cs t h
theorem Blk.set {w : World} {g : Nat} {cs : Array Value} {t : TypeId} (h : Blk w g cs t) (i : Nat) (v : Value) : Blk (w.setCell ⟨g, i, none⟩ v) g (cs.setIfInBounds i v) t := heap_setCell_same w g i cs t v h
theorem Blk.set_other {w : World} {g : Nat} {cs : Array Value} {t : TypeId} (h : Blk w g cs t) (a : Addr) (v : Value) (hne : g ≠ a.block) : Blk (w.setCell a v) g cs t := by
  unfold Blk; rw [heap_setCell_other w a g v hne]; exact h
theorem Blk.alloc {w : World} {g : Nat} {cs : Array Value} {t : TypeId} (h : Blk w g cs t) (o : Obj) : Blk (w.alloc o) g cs t := by
  unfold Blk; rw [Below.heap_alloc w o g h.lt]; exact h
theorem Blk.new (w : World) (cs : Array Value) (t : TypeId) : Blk (w.alloc (.cells cs t)) w.heap.size cs t := heap_alloc_new w _
theorem Blk.newAt {w : World} {n : Nat} (h : n = w.heap.size) (cs : Array Value) (t : TypeId) : Blk (w.alloc (.cells cs t)) n cs t := by subst h; exact Blk.new w cs t
theorem size_alloc (w : World) (o : Obj) : (w.alloc o).heap.size = w.heap.size + 1 := by simp
theorem Blk.below {B : Nat} {w w' : World} {g : Nat} {cs : Array Value} {t : TypeId} (h : Blk w g cs t) (hb : Below B w w') (hg : g < B) : Blk w' g cs t := by
  unfold Blk; rw [hb.block g hg]; exact h
theorem Blk.keep {w w' : World} {g : Nat} {cs : Array Value} {t : TypeId} (h : Blk w g cs t) (hb : Below w.heap.size w w') : Blk w' g cs t := h.below hb h.lt
theorem Blk.drew {w : World} {g : Nat} {cs : Array Value} {t : TypeId} (h : Blk w g cs t) : Blk w.drew g cs t := h
theorem Blk.cast {w : World} {g : Nat} {cs cs' : Array Value} {t : TypeId} (h : Blk w g cs t) (e : cs = cs') : Blk w g cs' t := e ▸ h

theorem below_new (w : World) (o : Obj) : Below w.heap.size w (w.alloc o) := (Below.refl _ _).alloc (Nat.le_refl _) _
/-- One step behind another. -/
theorem below_step {w w1 w2 : World} (h : Below w.heap.size w w1) (k : Below w1.heap.size w1 w2) : Below w.heap.size w w2 := h.trans (k.mono h.size)

/-- The boxes of a call's array parameters. -/
theorem boxes1 (w : World) (A : Array Value) (t : TypeId) : Below w.heap.size w (w.alloc (.cells A t)) ∧ Blk (w.alloc (.cells A t)) w.heap.size A t := ⟨below_new _ _, Blk.new _ _ _⟩
theorem boxes2 (w : World) (A B : Array Value) (t u : TypeId) : Below w.heap.size w ((w.alloc (.cells A t)).alloc (.cells B u)) ∧ Blk ((w.alloc (.cells A t)).alloc (.cells B u)) w.heap.size A t ∧ Blk ((w.alloc (.cells A t)).alloc (.cells B u)) (w.heap.size + 1) B u :=
  ⟨(below_new _ _).alloc (by simp) _, (Blk.new _ _ _).alloc _, Blk.newAt (by simp) _ _⟩
theorem boxes3 (w : World) (A B C : Array Value) (t u v : TypeId) : Below w.heap.size w (((w.alloc (.cells A t)).alloc (.cells B u)).alloc (.cells C v)) ∧ Blk (((w.alloc (.cells A t)).alloc (.cells B u)).alloc (.cells C v)) w.heap.size A t ∧ Blk (((w.alloc (.cells A t)).alloc (.cells B u)).alloc (.cells C v)) (w.heap.size + 1) B u ∧ Blk (((w.alloc (.cells A t)).alloc (.cells B u)).alloc (.cells C v)) (w.heap.size + 1 + 1) C v :=
  ⟨((below_new _ _).alloc (by simp) _).alloc (by simp; omega) _, ((Blk.new _ _ _).alloc _).alloc _, (Blk.newAt (by simp) _ _).alloc _, Blk.newAt (by simp) _ _⟩
theorem boxes4 (w : World) (A B C D : Array Value) (t u v x : TypeId) : Below w.heap.size w ((((w.alloc (.cells A t)).alloc (.cells B u)).alloc (.cells C v)).alloc (.cells D x)) ∧ Blk ((((w.alloc (.cells A t)).alloc (.cells B u)).alloc (.cells C v)).alloc (.cells D x)) w.heap.size A t ∧ Blk ((((w.alloc (.cells A t)).alloc (.cells B u)).alloc (.cells C v)).alloc (.cells D x)) (w.heap.size + 1) B u ∧ Blk ((((w.alloc (.cells A t)).alloc (.cells B u)).alloc (.cells C v)).alloc (.cells D x)) (w.heap.size + 1 + 1) C v ∧ Blk ((((w.alloc (.cells A t)).alloc (.cells B u)).alloc (.cells C v)).alloc (.cells D x)) (w.heap.size + 1 + 1 + 1) D x :=
  ⟨(((below_new _ _).alloc (by simp) _).alloc (by simp; omega) _).alloc (by simp; omega) _, (((Blk.new _ _ _).alloc _).alloc _).alloc _, ((Blk.newAt (by simp) _ _).alloc _).alloc _, (Blk.newAt (by simp) _ _).alloc _, Blk.newAt (by simp) _ _⟩

/-- A slice of int64 that reads as xs. -/
def IsRow (w : World) (v : Value) (xs : List Int) : Prop :=
  ∃ oa cap, v = .slice oa xs.length cap ∧ xs.length ≤ cap ∧ cap ≤ maxLen ∧
    (0 < xs.length → ∃ b off, oa = some ⟨b, off, none⟩ ∧ ∀ i, i < xs.length → w.cell? ⟨b, off + i, none⟩ = some (.int .i64 (cf xs i)))

theorem IsRow.below {w w' : World} {v : Value} {xs : List Int} (h : IsRow w v xs) (hb : Below w.heap.size w w') : IsRow w' v xs := by
  obtain ⟨oa, cap, h1, h2, h3, h4⟩ := h
  refine ⟨oa, cap, h1, h2, h3, fun hl => ?_⟩
  obtain ⟨b, off, h5, h6⟩ := h4 hl
  refine ⟨b, off, h5, fun i hi => ?_⟩
  have hlt := block_lt_of_cell (h6 i hi)
  rw [hb.cell hlt]
  exact h6 i hi

theorem IsRow_nil (w : World) : IsRow w (.slice none 0 0) [] := ⟨none, 0, rfl, Nat.le_refl _, Nat.zero_le _, fun h => absurd h (by simp)⟩

end Go.Proofs.Ythkkicanockhgaa

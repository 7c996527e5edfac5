/- Several texts in one: Mem, Ops, Make, Build, Grow, Grow2. -/
import Derived.WalkKit
import Derived.WalkSpells
import Derived.WalkLawsBesides
import Derived.Deep.MidRow
import Derived.Lib.Hide
import Derived.Test.YtojkngdabejjdaaPure
import Derived.Deep.WholeRow
import Derived.Lib.SliceRun
set_option linter.unusedVariables false
set_option linter.unusedSimpArgs false
/- Values and memory: arrays of cells told by functions, slices that read as lists of numbers. No program in sight. -/
namespace Go.Proofs.Ytojkngdabejjdaa
open Go.RowKit

/-- n cells, told by a function. -/
def arr (n : Nat) (f : Nat → Value) : Array Value := ((List.range n).map f).toArray
theorem arr_size (n : Nat) (f : Nat → Value) : (arr n f).size = n := by simp [arr]
theorem arr_get (n : Nat) (f : Nat → Value) (i : Nat) : (arr n f)[i]? = if i < n then some (f i) else none := by
  unfold arr
  rw [List.getElem?_toArray, List.getElem?_map]
  by_cases h : i < n
  · rw [if_pos h, List.getElem?_range h]; rfl
  · rw [if_neg h, List.getElem?_eq_none (by simpa using h)]; rfl
theorem arr_get_lt {n : Nat} (f : Nat → Value) {i : Nat} (h : i < n) : (arr n f)[i]? = some (f i) := by rw [arr_get, if_pos h]
theorem arr_ext {n : Nat} {f g : Nat → Value} (h : ∀ i, i < n → f i = g i) : arr n f = arr n g := by
  unfold arr
  rw [List.map_congr_left (fun i hi => h i (by simpa using hi))]
theorem arr_set (n : Nat) (f : Nat → Value) (i : Nat) (v : Value) : (arr n f).setIfInBounds i v = arr n (fun j => if j = i then v else f j) := by
  apply Array.ext_getElem?
  intro j
  rw [Array.getElem?_setIfInBounds, arr_get, arr_get, arr_size]
  by_cases hj : j < n
  · by_cases e : i = j
    · subst e; simp [hj]
    · simp [hj, e, Ne.symm e]
  · by_cases e : i = j
    · subst e; simp [hj]
    · simp [hj, e]
theorem arr_list (n : Nat) (f : Nat → Value) : (arr n f).toList = (List.range n).map f := by simp [arr]
/-- An array is told by its cells. -/
theorem eq_arr {A : Array Value} {n : Nat} {f : Nat → Value} (hs : A.size = n) (h : ∀ i, i < n → A[i]? = some (f i)) : A = arr n f := by
  apply Array.ext_getElem?
  intro j
  rw [arr_get]
  split
  · exact h j ‹_›
  · rw [Array.getElem?_eq_none (by omega)]
theorem arr_oneCell (n : Nat) (f : Nat → Value) (h : ∀ i, i < n → (f i).oneCell' = true) : (arr n f).all (·.oneCell') = true := by
  rw [Array.all_eq_true_iff_forall_mem]
  intro v hv
  rw [arr, List.mem_toArray, List.mem_map] at hv
  obtain ⟨i, hi, rfl⟩ := hv
  exact h i (by simpa using hi)

/-- n bytes, n int64s. -/
def u8s (n : Nat) (f : Nat → Int) : Array Value := arr n fun i => .int .u8 (f i)
def i64s (n : Nat) (f : Nat → Int) : Array Value := arr n fun i => .int .i64 (f i)
theorem u8s_size (n : Nat) (f : Nat → Int) : (u8s n f).size = n := arr_size _ _
theorem i64s_size (n : Nat) (f : Nat → Int) : (i64s n f).size = n := arr_size _ _
theorem u8s_get {n i : Nat} (f : Nat → Int) (h : i < n) : (u8s n f)[i]? = some (.int .u8 (f i)) := arr_get_lt _ h
theorem i64s_get {n i : Nat} (f : Nat → Int) (h : i < n) : (i64s n f)[i]? = some (.int .i64 (f i)) := arr_get_lt _ h
theorem u8s_ext {n : Nat} {f g : Nat → Int} (h : ∀ i, i < n → f i = g i) : u8s n f = u8s n g := arr_ext fun i hi => by rw [h i hi]
theorem i64s_ext {n : Nat} {f g : Nat → Int} (h : ∀ i, i < n → f i = g i) : i64s n f = i64s n g := arr_ext fun i hi => by rw [h i hi]
theorem u8s_set (n : Nat) (f : Nat → Int) (i : Nat) (v : Int) : (u8s n f).setIfInBounds i (.int .u8 v) = u8s n (fun j => if j = i then v else f j) := by
  unfold u8s; rw [arr_set]; apply arr_ext; intro j _; by_cases e : j = i <;> simp [e]
theorem i64s_set (n : Nat) (f : Nat → Int) (i : Nat) (v : Int) : (i64s n f).setIfInBounds i (.int .i64 v) = i64s n (fun j => if j = i then v else f j) := by
  unfold i64s; rw [arr_set]; apply arr_ext; intro j _; by_cases e : j = i <;> simp [e]
theorem u8s_oneCell (n : Nat) (f : Nat → Int) : (u8s n f).all (·.oneCell') = true := arr_oneCell _ _ fun _ _ => rfl
theorem i64s_oneCell (n : Nat) (f : Nat → Int) : (i64s n f).all (·.oneCell') = true := arr_oneCell _ _ fun _ _ => rfl

/-- A polynomial as the program's array of 64 bytes. -/
def polyV (a : List Int) : Value := .agg (u8s 64 (cf a))

/-- Block g holds these cells, and may be written. -/
def Blk (w : World) (g : Nat) (cs : Array Value) (t : TypeId) : Prop := w.heap[g]? = some (.cells cs t (0, 0))

theorem Blk.lt {w : World} {g : Nat} {cs : Array Value} {t : TypeId} (h : Blk w g cs t) : g < w.heap.size := by
  unfold Blk at h
  exact (Array.getElem?_eq_some_iff.1 h).1
theorem Blk.cell {w : World} {g : Nat} {cs : Array Value} {t : TypeId} (h : Blk w g cs t) (i : Nat) : w.cell? ⟨g, i, none⟩ = cs[i]? := cell_of_row w g i cs t _ h
theorem Blk.free {w : World} {g : Nat} {cs : Array Value} {t : TypeId} (h : Blk w g cs t) (i : Nat) : w.frozen? ⟨g, i, none⟩ = false := frozen_of_row w g i cs t h
theorem Blk.set {w : World} {g : Nat} {cs : Array Value} {t : TypeId} (h : Blk w g cs t) (i : Nat) (v : Value) : Blk (w.setCell ⟨g, i, none⟩ v) g (cs.setIfInBounds i v) t := heap_setCell_same w g i cs t v h
theorem Blk.set_other {w : World} {g : Nat} {cs : Array Value} {t : TypeId} (h : Blk w g cs t) (a : Addr) (v : Value) (hne : g ≠ a.block) : Blk (w.setCell a v) g cs t := by
  unfold Blk; rw [heap_setCell_other w a g v hne]; exact h
theorem Blk.alloc {w : World} {g : Nat} {cs : Array Value} {t : TypeId} (h : Blk w g cs t) (o : Obj) : Blk (w.alloc o) g cs t := by
  unfold Blk; rw [Below.heap_alloc w o g h.lt]; exact h
theorem Blk.new (w : World) (cs : Array Value) (t : TypeId) : Blk (w.alloc (.cells cs t)) w.heap.size cs t := heap_alloc_new w _
theorem Blk.newAt {w : World} {n : Nat} (h : n = w.heap.size) (cs : Array Value) (t : TypeId) : Blk (w.alloc (.cells cs t)) n cs t := by subst h; exact Blk.new w cs t
theorem size_alloc (w : World) (o : Obj) : (w.alloc o).heap.size = w.heap.size + 1 := by simp
theorem Blk.below {B : Nat} {w w' : World} {g : Nat} {cs : Array Value} {t : TypeId} (h : Blk w g cs t) (hb : Below B w w') (hg : g < B) : Blk w' g cs t := by
  unfold Blk; rw [hb.block g hg]; exact h
theorem Blk.keep {w w' : World} {g : Nat} {cs : Array Value} {t : TypeId} (h : Blk w g cs t) (hb : Below w.heap.size w w') : Blk w' g cs t := h.below hb h.lt
theorem Blk.drew {w : World} {g : Nat} {cs : Array Value} {t : TypeId} (h : Blk w g cs t) : Blk w.drew g cs t := h
theorem Blk.cast {w : World} {g : Nat} {cs cs' : Array Value} {t : TypeId} (h : Blk w g cs t) (e : cs = cs') : Blk w g cs' t := e ▸ h

theorem below_new (w : World) (o : Obj) : Below w.heap.size w (w.alloc o) := (Below.refl _ _).alloc (Nat.le_refl _) _
/-- One step behind another. -/
theorem below_step {w w1 w2 : World} (h : Below w.heap.size w w1) (k : Below w1.heap.size w1 w2) : Below w.heap.size w w2 := h.trans (k.mono h.size)

/-- The boxes of a call's array parameters. -/
theorem boxes1 (w : World) (A : Array Value) (t : TypeId) : Below w.heap.size w (w.alloc (.cells A t)) ∧ Blk (w.alloc (.cells A t)) w.heap.size A t := ⟨below_new _ _, Blk.new _ _ _⟩
theorem boxes2 (w : World) (A B : Array Value) (t u : TypeId) : Below w.heap.size w ((w.alloc (.cells A t)).alloc (.cells B u)) ∧ Blk ((w.alloc (.cells A t)).alloc (.cells B u)) w.heap.size A t ∧ Blk ((w.alloc (.cells A t)).alloc (.cells B u)) (w.heap.size + 1) B u :=
  ⟨(below_new _ _).alloc (by simp) _, (Blk.new _ _ _).alloc _, Blk.newAt (by simp) _ _⟩
theorem boxes3 (w : World) (A B C : Array Value) (t u v : TypeId) : Below w.heap.size w (((w.alloc (.cells A t)).alloc (.cells B u)).alloc (.cells C v)) ∧ Blk (((w.alloc (.cells A t)).alloc (.cells B u)).alloc (.cells C v)) w.heap.size A t ∧ Blk (((w.alloc (.cells A t)).alloc (.cells B u)).alloc (.cells C v)) (w.heap.size + 1) B u ∧ Blk (((w.alloc (.cells A t)).alloc (.cells B u)).alloc (.cells C v)) (w.heap.size + 1 + 1) C v :=
  ⟨((below_new _ _).alloc (by simp) _).alloc (by simp; omega) _, ((Blk.new _ _ _).alloc _).alloc _, (Blk.newAt (by simp) _ _).alloc _, Blk.newAt (by simp) _ _⟩
theorem boxes4 (w : World) (A B C D : Array Value) (t u v x : TypeId) : Below w.heap.size w ((((w.alloc (.cells A t)).alloc (.cells B u)).alloc (.cells C v)).alloc (.cells D x)) ∧ Blk ((((w.alloc (.cells A t)).alloc (.cells B u)).alloc (.cells C v)).alloc (.cells D x)) w.heap.size A t ∧ Blk ((((w.alloc (.cells A t)).alloc (.cells B u)).alloc (.cells C v)).alloc (.cells D x)) (w.heap.size + 1) B u ∧ Blk ((((w.alloc (.cells A t)).alloc (.cells B u)).alloc (.cells C v)).alloc (.cells D x)) (w.heap.size + 1 + 1) C v ∧ Blk ((((w.alloc (.cells A t)).alloc (.cells B u)).alloc (.cells C v)).alloc (.cells D x)) (w.heap.size + 1 + 1 + 1) D x :=
  ⟨(((below_new _ _).alloc (by simp) _).alloc (by simp; omega) _).alloc (by simp; omega) _, (((Blk.new _ _ _).alloc _).alloc _).alloc _, ((Blk.newAt (by simp) _ _).alloc _).alloc _, (Blk.newAt (by simp) _ _).alloc _, Blk.newAt (by simp) _ _⟩

/-- A slice of int64 that reads as xs. -/
def IsRow (w : World) (v : Value) (xs : List Int) : Prop :=
  ∃ oa cap, v = .slice oa xs.length cap ∧ xs.length ≤ cap ∧ cap ≤ maxLen ∧
    (0 < xs.length → ∃ b off, oa = some ⟨b, off, none⟩ ∧ ∀ i, i < xs.length → w.cell? ⟨b, off + i, none⟩ = some (.int .i64 (cf xs i)))

theorem IsRow.below {w w' : World} {v : Value} {xs : List Int} (h : IsRow w v xs) (hb : Below w.heap.size w w') : IsRow w' v xs := by
  obtain ⟨oa, cap, h1, h2, h3, h4⟩ := h
  refine ⟨oa, cap, h1, h2, h3, fun hl => ?_⟩
  obtain ⟨b, off, h5, h6⟩ := h4 hl
  refine ⟨b, off, h5, fun i hi => ?_⟩
  have hlt := block_lt_of_cell (h6 i hi)
  rw [hb.cell hlt]
  exact h6 i hi

theorem IsRow_nil (w : World) : IsRow w (.slice none 0 0) [] := ⟨none, 0, rfl, Nat.le_refl _, Nat.zero_le _, fun h => absurd h (by simp)⟩

end Go.Proofs.Ytojkngdabejjdaa

/- Laws for single operations on arrays told by functions: a variable of zeros, a whole array read or stored, an element, equality. -/
namespace Go.Proofs.Ytojkngdabejjdaa
open Go.RowKit

section
variable {P : Program} {ops : Array Oper} {rest : List Oper} {o : Oper} {a : Act} {w : World} {Q : Exit → Act → World → Prop}

/-- The operation is run (it has no guard, or its guard says yes). -/
theorem wpl_wanted (hw : Region.wanted o (yielded ops a.tmps) = true)
    (h : ∀ K : Act → World → Prop, (∀ a w, wpList P ops Q rest a w → K a w) → o.wp P a w K Q) : wpList P ops Q (o :: rest) a w :=
  wpList_step fun K hK => by rw [if_pos hw]; exact h K hK

/-- A whole array is read. -/
theorem wpl_load_arr (hw : Region.wanted o (yielded ops a.tmps) = true) (ty : TypeId) (x : Operand) (ho : o.op = .load ty x)
    (g : Nat) (hx : a.eval x = .pointer (some ⟨g, 0, none⟩)) (t : TypeId) (cs : Array Value) (hb : Blk w g cs t) (n e : Nat)
    (hu : P.underlying ty = some (.array n e)) (hi : (P.info? ty).map (·.size) = some cs.size)
    (h : wpList P ops Q rest (a.put o.dst (.agg cs)) w) : wpList P ops Q (o :: rest) a w :=
  wpl_wanted hw fun _ hK => wp_load_row ty x ho g hx t cs _ _ hb hu rfl hi (hK _ _ h)

theorem wpl_alloc_arr (hw : Region.wanted o (yielded ops a.tmps) = true) (t : TypeId) (hop : o.op = .alloc t) (cs : Array Value)
    (hz : (P.info? t).bind (·.zero) = some (.agg cs))
    (h : wpList P ops Q rest (a.put o.dst (.pointer (some ⟨w.heap.size, 0, none⟩))) (w.alloc (.cells cs t))) : wpList P ops Q (o :: rest) a w := by
  refine wpl_wanted hw fun K hK => ?_
  obtain ⟨i, hi, hz⟩ := Option.bind_eq_some_iff.1 hz
  have hK := hK _ _ h
  unfold Oper.wp execOp
  simp [hop, Instr.alloc, zeroValue, typeInfo, hi, hz, newVar, newRow, newObj, Sem.run_bind, Value.cells, Oper.upon]
  exact hK

theorem wpl_store_arr (hw : Region.wanted o (yielded ops a.tmps) = true) (t : TypeId) (x y : Operand) (hop : o.op = .store t x y) (g : Nat) (hx : a.eval x = .pointer (some ⟨g, 0, none⟩))
    (cs : Array Value) (hy : a.eval y = .agg cs) (old : Array Value) (T : TypeId) (hb : Blk w g old T) (hs : (P.info? t).map (·.size) = some cs.size) (ho : old.size = cs.size)
    (h1 : cs.all (·.oneCell') = true)
    (h : wpList P ops Q rest (a.put o.dst undef) (w.setRow g cs)) : wpList P ops Q (o :: rest) a w := by
  refine wpl_wanted hw fun K hK => ?_
  have hK := hK _ _ h
  have hr := run_storeCells_from (P := P) g T cs.toList 0 old w hb (by simp [ho]) (fun v hv => (Array.all_eq_true_iff_forall_mem.1 h1) v (by simpa using hv))
  simp only [List.take_zero, List.nil_append, Array.toArray_toList] at hr
  obtain ⟨i, hi, hsz⟩ := Option.map_eq_some_iff.1 hs
  unfold Oper.wp execOp
  simp only [hop, hx, hy, Instr.storeAt, Instr.sureAddr, storeVar, sizeOf, typeInfo, Value.cells]
  simp [Sem.run_bind, hi, hsz, hr, Oper.upon]
  exact hK

/-- The zero value of an array's type, written out ('Poly{}'). -/
theorem wpl_build_zero (hw : Region.wanted o (yielded ops a.tmps) = true) (t n e : Nat) (hop : o.op = .build t #[]) (cs : Array Value) (ht : P.underlying t = some (.array n e)) (hs : (P.info? e).map (·.size) = some 1)
    (hz : (P.info? t).bind (·.zero) = some (.agg cs))
    (h : wpList P ops Q rest (a.put o.dst (.agg cs)) w) : wpList P ops Q (o :: rest) a w := by
  refine wpl_wanted hw fun K hK => ?_
  obtain ⟨i, hi, hz⟩ := Option.bind_eq_some_iff.1 hz
  obtain ⟨ie, hie, hse⟩ := Option.map_eq_some_iff.1 hs
  have hK := hK _ _ h
  unfold Oper.wp execOp
  simp [hop, Instr.build, zeroValue, typeInfo, hi, hz, Sem.run_bind, Value.cells, run_underlying ht w, sizeOf, hie, Instr.fill, Oper.upon]
  exact hK

/-- A whole array is stored into the variable that has just been laid. -/
theorem wpl_store_new {w0 : World} {old : Array Value} {T : TypeId} (hw : Region.wanted o (yielded ops a.tmps) = true) (t : TypeId) (x y : Operand) (hop : o.op = .store t x y) (g : Nat) (hx : a.eval x = .pointer (some ⟨g, 0, none⟩)) (hg : g = w0.heap.size)
    (cs : Array Value) (hy : a.eval y = .agg cs) (hs : (P.info? t).map (·.size) = some cs.size) (ho : old.size = cs.size) (h1 : cs.all (·.oneCell') = true)
    (h : wpList P ops Q rest (a.put o.dst undef) (w0.alloc (.cells cs T))) : wpList P ops Q (o :: rest) a (w0.alloc (.cells old T)) := by
  subst hg
  refine wpl_store_arr hw t x y hop _ hx cs hy old T (Blk.new w0 old T) hs ho h1 ?_
  rw [World.setRow_alloc_new]
  exact h

theorem Blk.setRow_same {w : World} {g : Nat} {old cs : Array Value} {t : TypeId} (h : Blk w g old t) : Blk (w.setRow g cs) g cs t := setRow_heap w g old cs t _ h
theorem Blk.setRow_other {w : World} {g k : Nat} {old cs : Array Value} {t : TypeId} (h : Blk w k old t) (hne : k ≠ g) : Blk (w.setRow g cs) k old t := by
  unfold Blk; rw [_root_.Go.setRow_other w g k cs hne]; exact h
theorem below_setRow {B : Nat} {a w : World} (h : Below B a w) {g : Nat} (hg : B ≤ g) (cs : Array Value) : Below B a (w.setRow g cs) :=
  h.trans ⟨rfl, rfl, rfl, by simp, fun k hk => _root_.Go.setRow_other w g k cs (by omega)⟩

/-- Equality of two arrays of one-cell integers. -/
theorem run_equal_arr (d : Nat) (t e : TypeId) (k : IntKind) (n : Nat) (f g : Nat → Int) (ht : P.underlying t = some (.array n e)) (he : P.underlying e = some (.int k)) (hs : (P.info? e).map (·.size) = some 1) :
    (Op.equalIn (d + 2) t (.agg (arr n fun i => .int k (f i))) (.agg (arr n fun i => .int k (g i)))).run P w = .ok (decide (∀ i, i < n → f i = g i)) w := by
  obtain ⟨i, hi, hsz⟩ := Option.map_eq_some_iff.1 hs
  have hsize : (sizeOf e).run P w = .ok 1 w := by simp [sizeOf, typeInfo, hi, hsz, Sem.run_bind]
  have hpart : ∀ (F : Nat → Int) (j : Nat), j < n → (part e (arr n fun i => .int k (F i)) j).run P w = .ok (.int k (F j)) w := by
    intro F j hj
    have hag : (isAgg e).run P w = .ok false w := by unfold isAgg; rw [Sem.run_bind, run_underlying he w]; rfl
    simp [part, Sem.run_bind, hag, arr_get_lt _ hj]
  have hone : ∀ (j : Nat), j < n → (Op.equalIn (d + 1) e (.int k (f j)) (.int k (g j))).run P w = .ok (f j == g j) w := fun j _ => run_equalIn_int w d e k k (f j) (g j) he
  have hloop : ∀ l : List Nat, (∀ j ∈ l, j < n) →
      (forIn l ((none : Option Bool), ()) (fun i _ => do
            let x ← part e (arr n fun i => Value.int k (f i)) (i * 1)
            let y ← part e (arr n fun i => Value.int k (g i)) (i * 1)
            let b ← Op.equalIn (d + 1) e x y
            if (!b) = true then pure (ForInStep.done (some false, ())) else pure (ForInStep.yield (none, ())))).run P w
        = .ok (if ∀ j ∈ l, f j = g j then none else some false, ()) w := by
    intro l
    induction l with
    | nil => intro _; simp
    | cons j l ih =>
      intro hl
      have hj : j < n := hl j (by simp)
      have ih' := ih (fun m hm => hl m (by simp [hm]))
      simp only [List.forIn_cons, Sem.run_bind, Nat.mul_one, hpart f j hj, hpart g j hj, hone j hj, Result.andThen_ok] at ih' ⊢
      by_cases e1 : f j = g j
      · simp only [e1, beq_self_eq_true, Bool.not_true, Bool.false_eq_true, if_false, Sem.run_pure, Result.andThen_ok]
        rw [ih']
        simp [e1]
      · have e2 : (f j == g j) = false := by simpa using e1
        simp only [e2, Bool.not_false, if_true, Sem.run_pure, Result.andThen_ok]
        simp [e1]
  rw [Op.equalIn.eq_def]
  simp only [Sem.run_bind, run_underlying ht w, Result.andThen_ok, hsize, Std.Legacy.Range.forIn_eq_forIn_range']
  rw [hloop _ (by intro j hj; simp at hj; omega)]
  simp only [Result.andThen_ok]
  by_cases hall : ∀ i, i < n → f i = g i
  · rw [if_pos (by intro j hj; simp at hj; exact hall j (by omega))]
    simp only [Sem.run_pure]; rw [decide_eq_true hall]
  · rw [if_neg (by intro h2; exact hall fun i hi => h2 i (by simp; omega))]
    simp only [Sem.run_pure, hall, decide_false]

theorem wpl_eql_arr (hw : Region.wanted o (yielded ops a.tmps) = true) (t t' : TypeId) (x y : Operand) (hop : o.op = .binOp .eql t x y t') (n : Nat) (k : IntKind) (f g : Nat → Int) (e : TypeId)
    (hx : a.eval x = .agg (arr n fun i => .int k (f i))) (hy : a.eval y = .agg (arr n fun i => .int k (g i)))
    (ht : P.underlying t = some (.array n e)) (he : P.underlying e = some (.int k)) (hs : (P.info? e).map (·.size) = some 1) (hm : P.eqGuardType P.depth t = false)
    (b : Bool) (hb : decide (∀ i, i < n → f i = g i) = b)
    (h : wpList P ops Q rest (a.put o.dst (.bool b)) w) : wpList P ops Q (o :: rest) a w := by
  refine wpl_wanted hw fun K hK => ?_
  have hK := hK _ _ h
  have h1 := run_equal_arr (P := P) (w := w) 9998 t e k n f g ht he hs
  have h2 := run_eqGuard_agg (P := P) w .eql t x y (arr n fun i => .int k (f i)) (arr n fun i => .int k (g i)) hm
  unfold Oper.wp execOp
  simp only [hop, hx, hy, Sem.run_bind, h2, Result.andThen_ok, run_eql_struct, h1, hb]
  exact hK

theorem wpl_neq_arr (hw : Region.wanted o (yielded ops a.tmps) = true) (t t' : TypeId) (x y : Operand) (hop : o.op = .binOp .neq t x y t') (n : Nat) (k : IntKind) (f g : Nat → Int) (e : TypeId)
    (hx : a.eval x = .agg (arr n fun i => .int k (f i))) (hy : a.eval y = .agg (arr n fun i => .int k (g i)))
    (ht : P.underlying t = some (.array n e)) (he : P.underlying e = some (.int k)) (hs : (P.info? e).map (·.size) = some 1) (hm : P.eqGuardType P.depth t = false)
    (b : Bool) (hb : decide (∀ i, i < n → f i = g i) = b)
    (h : wpList P ops Q rest (a.put o.dst (.bool (!b))) w) : wpList P ops Q (o :: rest) a w := by
  refine wpl_wanted hw fun K hK => ?_
  have hK := hK _ _ h
  have h1 := run_equal_arr (P := P) (w := w) 9998 t e k n f g ht he hs
  have h2 := run_eqGuard_agg (P := P) w .neq t x y (arr n fun i => .int k (f i)) (arr n fun i => .int k (g i)) hm
  unfold Oper.wp execOp
  simp only [hop, hx, hy, Sem.run_bind, h2, Result.andThen_ok, run_neq_struct, h1, hb]
  exact hK

/-- An element of an array that lies in a slot. -/
theorem wpl_index_arr (hw : Region.wanted o (yielded ops a.tmps) = true) (t : TypeId) (x ix : Operand) (hop : o.op = .index t x ix) (n e : Nat) (cs : Array Value) (kd : TypeDesc)
    (hx : a.eval x = .agg cs) (k : IntKind) (i : Nat) (hi : a.eval ix = .int k (i : Int)) (hin : i < n)
    (ht : P.underlying t = some (.array n e)) (he : P.underlying e = some kd) (hkd : (match kd with | .struct _ | .array _ _ => false | _ => true) = true) (hs : (P.info? e).map (·.size) = some 1)
    (v : Value) (hv : cs[i]? = some v)
    (h : wpList P ops Q rest (a.put o.dst v) w) : wpList P ops Q (o :: rest) a w := by
  refine wpl_wanted hw fun K hK => ?_
  have hK := hK _ _ h
  obtain ⟨inf, hinf, hsz⟩ := Option.map_eq_some_iff.1 hs
  have hsize : (sizeOf e).run P w = .ok 1 w := by simp [sizeOf, typeInfo, hinf, hsz, Sem.run_bind]
  have hag : (isAgg e).run P w = .ok false w := by
    unfold isAgg; rw [Sem.run_bind, run_underlying he w]
    cases kd <;> simp_all
  have hcond : (0 : Int) ≤ (i : Int) ∧ (i : Int) < (n : Int) := by omega
  unfold Oper.wp execOp
  simp only [hop, hx, hi, Instr.index, asIntOf, Sem.run_bind, Sem.run_pure, Result.andThen_ok, run_underlying ht w]
  rw [if_pos hcond]
  simp only [Sem.run_bind, hsize, Result.andThen_ok, Nat.mul_one, Int.toNat_natCast, part, hag, hv]
  simp only [Bool.false_eq_true, if_false, Sem.run_pure, Result.andThen_ok]
  exact hK

end

section
variable {P : Program} {fn : Func} {tmps : Array Value} {w : World}
theorem res_c {p : Tmp} {ty n e : TypeId} (h : fn.results = #[.cell p ty]) {g t : Nat} {cs : Array Value} (hp : tmps.getD p undef = .pointer (some ⟨g, 0, none⟩)) (hb : Blk w g cs t)
    (hu : P.underlying ty = some (.array n e)) (hi : (P.info? ty).map (·.size) = some cs.size) : (results fn tmps).run P w = .ok (.agg cs) w :=
  results_cell_row h tmps w g t cs _ _ hp hb hu rfl hi
theorem res_ct {p u : Tmp} {ty n e : TypeId} (h : fn.results = #[.cell p ty, .tmp u]) {g t : Nat} {cs : Array Value} (hp : tmps.getD p undef = .pointer (some ⟨g, 0, none⟩)) (hb : Blk w g cs t)
    (hu : P.underlying ty = some (.array n e)) (hi : (P.info? ty).map (·.size) = some cs.size) {x : Value} (hx : tmps.getD u undef = x) : (results fn tmps).run P w = .ok (.tuple #[.agg cs, x]) w := by
  have hp' : tmps[p]?.getD undef = .pointer (some ⟨g, 0, none⟩) := by simpa using hp
  have hx' : tmps[u]?.getD undef = x := by simpa using hx
  simp [results, h, hp', hx', asAddr, run_loadVar_row w g t ty cs _ _ hb hu rfl hi]
theorem res_cct {p p2 u : Tmp} {ty ty2 n e n2 e2 : TypeId} (h : fn.results = #[.cell p ty, .cell p2 ty2, .tmp u]) {g t g2 t2 : Nat} {cs cs2 : Array Value} (hp : tmps.getD p undef = .pointer (some ⟨g, 0, none⟩)) (hb : Blk w g cs t)
    (hu : P.underlying ty = some (.array n e)) (hi : (P.info? ty).map (·.size) = some cs.size) (hp2 : tmps.getD p2 undef = .pointer (some ⟨g2, 0, none⟩)) (hb2 : Blk w g2 cs2 t2)
    (hu2 : P.underlying ty2 = some (.array n2 e2)) (hi2 : (P.info? ty2).map (·.size) = some cs2.size) {x : Value} (hx : tmps.getD u undef = x) : (results fn tmps).run P w = .ok (.tuple #[.agg cs, .agg cs2, x]) w := by
  have hp' : tmps[p]?.getD undef = .pointer (some ⟨g, 0, none⟩) := by simpa using hp
  have hp2' : tmps[p2]?.getD undef = .pointer (some ⟨g2, 0, none⟩) := by simpa using hp2
  have hx' : tmps[u]?.getD undef = x := by simpa using hx
  simp [results, h, hp', hp2', hx', asAddr, run_loadVar_row w g t ty cs _ _ hb hu rfl hi, run_loadVar_row w g2 t2 ty2 cs2 _ _ hb2 hu2 rfl hi2]
theorem res_cc {p p2 : Tmp} {ty ty2 n e n2 e2 : TypeId} (h : fn.results = #[.cell p ty, .cell p2 ty2]) {g t g2 t2 : Nat} {cs cs2 : Array Value} (hp : tmps.getD p undef = .pointer (some ⟨g, 0, none⟩)) (hb : Blk w g cs t)
    (hu : P.underlying ty = some (.array n e)) (hi : (P.info? ty).map (·.size) = some cs.size) (hp2 : tmps.getD p2 undef = .pointer (some ⟨g2, 0, none⟩)) (hb2 : Blk w g2 cs2 t2)
    (hu2 : P.underlying ty2 = some (.array n2 e2)) (hi2 : (P.info? ty2).map (·.size) = some cs2.size) : (results fn tmps).run P w = .ok (.tuple #[.agg cs, .agg cs2]) w := by
  have hp' : tmps[p]?.getD undef = .pointer (some ⟨g, 0, none⟩) := by simpa using hp
  have hp2' : tmps[p2]?.getD undef = .pointer (some ⟨g2, 0, none⟩) := by simpa using hp2
  simp [results, h, hp', hp2', asAddr, run_loadVar_row w g t ty cs _ _ hb hu rfl hi, run_loadVar_row w g2 t2 ty2 cs2 _ _ hb2 hu2 rfl hi2]
end
end Go.Proofs.Ytojkngdabejjdaa

/- A law: a new slice of zeros whose elements are one cell each. -/
namespace Go.Proofs.Ytojkngdabejjdaa
open Go.RowKit
section
variable {P : Program} {ops : Array Oper} {rest : List Oper} {o : Oper} {a : Act} {w : World} {Q : Exit → Act → World → Prop}
theorem wpl_make_one (hw : Region.wanted o (yielded ops a.tmps) = true) (t e : TypeId) (l c : Operand) (hop : o.op = .makeSlice t l c) (z : Value)
    (ht : P.underlying t = some (.slice e)) (hinfo : (P.info? e).map (fun i => (i.zero, i.size, i.bytes)) = some (some z, 1, 8)) (hz1 : z.cells = #[z])
    (kl kc : IntKind) (L C : Int) (n : Nat) (hl : a.eval l = .int kl L) (hc : a.eval c = .int kc C) (hL : L = (n : Int)) (hC : C = (n : Int)) (hn : n ≤ 1000000000000)
    (h : wpList P ops Q rest (a.put o.dst (.slice (some ⟨w.heap.size, 0, none⟩) n n)) (w.alloc (.cells (arr n fun _ => z) e))) : wpList P ops Q (o :: rest) a w := by
  refine wpl_wanted hw fun K hK => ?_
  have hK := hK _ _ h
  subst hL hC
  obtain ⟨i, hi, hz, hsz, hby⟩ := info_parts hinfo
  have hr := run_make (P := P) w t e i z ht hi hz kl kc (n : Int) (n : Int) (by omega) (Int.le_refl _) (by rw [hby]; omega) (by omega)
  have e2 : madeCells z.cells ((n : Int).toNat * i.size) = arr n fun _ => z := by
    rw [Int.toNat_natCast, hsz, Nat.mul_one, hz1]
    apply Array.ext_getElem?
    intro j
    rw [← Array.getElem?_toList, toList_madeCells_one, arr_get, List.getElem?_replicate]
  rw [e2, Int.toNat_natCast] at hr
  unfold Oper.wp execOp
  simp only [hop, hl, hc, Sem.run_bind, hr, Result.andThen_ok]
  exact hK
end
end Go.Proofs.Ytojkngdabejjdaa

/- Laws: a slice of arrays that the call writes out; an array that lies within a row of cells. -/
namespace Go.Proofs.Ytojkngdabejjdaa
open Go.RowKit

theorem foldl_put (off N : Nat) : ∀ (l : List Value) (s : Nat) (G : Nat → Value),
    (l.zipIdx s).foldl (fun (cs : Array Value) (x : Value × Nat) => cs.setIfInBounds (off + x.2) x.1) (arr N G) =
      arr N (fun q => if off + s ≤ q ∧ q < off + s + l.length then l.getD (q - (off + s)) (G q) else G q)
  | [], s, G => by
    simp only [List.zipIdx_nil, List.foldl_nil]
    apply arr_ext; intro i _; rw [if_neg (by simp)]
  | v :: l, s, G => by
    simp only [List.zipIdx_cons, List.foldl_cons]
    rw [arr_set, foldl_put off N l (s + 1)]
    apply arr_ext; intro q _
    by_cases h1 : q = off + s
    · subst h1
      rw [if_neg (by omega), if_pos rfl, if_pos ⟨Nat.le_refl _, by simp⟩]
      simp
    · simp only [h1, if_false]
      by_cases h2 : off + (s + 1) ≤ q ∧ q < off + (s + 1) + l.length
      · rw [if_pos h2, if_pos (by simp only [List.length_cons]; omega)]
        rw [show q - (off + s) = (q - (off + (s + 1))) + 1 by omega, List.getD_cons_succ]
      · rw [if_neg h2, if_neg (by simp only [List.length_cons]; omega)]

/-- The cells of several polynomials, one behind the other. -/
def polysF (fs : List (Nat → Int)) (j : Nat) : Int := (fs.getD (j / 64) (fun _ => 0)) (j % 64)

theorem fill_polys (N : Nat) : ∀ (fs : List (Nat → Int)) (k : Nat) (G : Nat → Value), (k + fs.length) * 64 ≤ N →
    Instr.fill (fun i => some (i * 64, 64)) (arr N G) ((fs.zipIdx k).map fun x => (x.2, Value.agg (u8s 64 x.1))) =
      some (arr N (fun q => if k * 64 ≤ q ∧ q < (k + fs.length) * 64 then .int .u8 (polysF fs (q - k * 64)) else G q))
  | [], k, G, _ => by
    simp only [List.zipIdx_nil, List.map_nil, Instr.fill]
    refine congrArg some (arr_ext fun i _ => ?_); rw [if_neg (by simp only [List.length_nil]; omega)]
  | f :: fs, k, G, h => by
    simp only [List.length_cons] at h
    simp only [List.zipIdx_cons, List.map_cons, Instr.fill, Value.cells, u8s_size, arr_size]
    rw [if_neg (by simp; omega)]
    have h1 : ((u8s 64 f).zipIdx.foldl (fun cs (x : Value × Nat) => cs.setIfInBounds (k * 64 + x.2) x.1) (arr N G)) =
        arr N (fun q => if k * 64 ≤ q ∧ q < k * 64 + 64 then .int .u8 (f (q - k * 64)) else G q) := by
      rw [← Array.foldl_toList, Array.toList_zipIdx]
      unfold u8s
      rw [arr_list, foldl_put]
      apply arr_ext; intro q _
      simp only [List.length_map, List.length_range, Nat.add_zero]
      split
      · rename_i hq
        rw [List.getD_eq_getElem?_getD, List.getElem?_map, List.getElem?_range (by omega)]; rfl
      · rfl
    refine (congrArg (fun A => Instr.fill (fun i => some (i * 64, 64)) A ((fs.zipIdx (k + 1)).map fun x => (x.2, Value.agg (u8s 64 x.1)))) h1).trans ?_
    rw [fill_polys N fs (k + 1) _ (by omega)]
    refine congrArg some (arr_ext fun q _ => ?_)
    simp only [List.length_cons]
    by_cases h2 : (k + 1) * 64 ≤ q ∧ q < (k + 1 + fs.length) * 64
    · rw [if_pos h2, if_pos (by omega)]
      unfold polysF
      rw [show (q - k * 64) / 64 = (q - (k + 1) * 64) / 64 + 1 by omega, show (q - k * 64) % 64 = (q - (k + 1) * 64) % 64 by omega, List.getD_cons_succ]
    · rw [if_neg h2]
      by_cases h3 : k * 64 ≤ q ∧ q < k * 64 + 64
      · rw [if_pos h3, if_pos (by omega)]
        unfold polysF
        rw [show (q - k * 64) / 64 = 0 by omega, show (q - k * 64) % 64 = q - k * 64 by omega]; rfl
      · rw [if_neg h3, if_neg (by omega)]

section
variable {P : Program} {ops : Array Oper} {rest : List Oper} {o : Oper} {a : Act} {w : World} {Q : Exit → Act → World → Prop}

/-- A slice of polynomials that the call writes out (the arguments of a variadic call). -/
theorem wpl_buildSlice_polys (hw : Region.wanted o (yielded ops a.tmps) = true) (t e n : Nat) (parts : List (Nat × Operand)) (hop : o.op = .buildSlice t n parts.toArray)
    (ht : P.underlying t = some (.slice e)) (hs : (P.info? e).map (·.size) = some 64) (hz : (P.info? e).bind (·.zero) = some (.agg (u8s 64 fun _ => 0)))
    (fs : List (Nat → Int)) (hn : fs.length = n) (hn0 : 0 < n) (hn1 : n ≤ 1000)
    (hp : (parts.map fun (x : Nat × Operand) => (x.1, a.eval x.2)) = fs.zipIdx.map fun x => (x.2, Value.agg (u8s 64 x.1)))
    (h : wpList P ops Q rest (a.put o.dst (.slice (some ⟨w.heap.size, 0, none⟩) n n)) (w.alloc (.cells (u8s (n * 64) (polysF fs)) e))) : wpList P ops Q (o :: rest) a w := by
  refine wpl_wanted hw fun K hK => ?_
  have hK := hK _ _ h
  obtain ⟨inf, hinf, hsz⟩ := Option.map_eq_some_iff.1 hs
  obtain ⟨inf', hinf', hz⟩ := Option.bind_eq_some_iff.1 hz
  obtain rfl : inf = inf' := by rw [hinf] at hinf'; exact Option.some.inj hinf'
  have hfill := fill_polys (n * 64) fs 0 (fun q => (u8s 64 fun _ => 0)[q % 64]!) (by omega)
  have hzero : (Array.range (n * 64)).map (fun x => (u8s 64 fun _ => 0)[x % (u8s 64 fun _ => 0).size]!) = arr (n * 64) (fun q => (u8s 64 fun _ => 0)[q % 64]!) := by
    apply Array.ext_getElem?
    intro i
    rw [arr_get, Array.getElem?_map, u8s_size]
    by_cases hi : i < n * 64
    · rw [if_pos hi, Array.getElem?_range, if_pos hi]; rfl
    · rw [if_neg hi, Array.getElem?_range, if_neg hi]; rfl
  unfold Oper.wp execOp
  simp only [hop, Instr.buildSlice, Sem.run_bind, run_underlying ht w, Result.andThen_ok, sizeOf, typeInfo, run_program, hinf, Sem.run_pure, hsz, zeroValue, List.map_toArray, hp, Value.cells]
  rw [if_neg (by simp only [Nat.reducePow]; omega), if_neg (by omega)]
  simp only [Sem.run_bind, run_program, Result.andThen_ok, hinf, Sem.run_pure, hz, hzero, hfill]
  simp only [Nat.zero_mul, Nat.zero_le, Nat.zero_add, true_and, Nat.sub_zero]
  have e1 : arr (n * 64) (fun q => if q < fs.length * 64 then Value.int .u8 (polysF fs q) else (u8s 64 fun _ => 0)[q % 64]!) = u8s (n * 64) (polysF fs) := by
    apply arr_ext; intro i hi; rw [if_pos (by omega)]
  rw [e1]
  simp [newRow, newObj, Oper.upon]
  exact hK

/-- An array that lies somewhere in a row of cells is read whole. -/
theorem wpl_load_mid (hw : Region.wanted o (yielded ops a.tmps) = true) (ty : TypeId) (x : Operand) (ho : o.op = .load ty x)
    (g off : Nat) (hx : a.eval x = .pointer (some ⟨g, off, none⟩)) (n e : Nat) (f : Nat → Value) (hc : ∀ j, j < n → w.cell? ⟨g, off + j, none⟩ = some (f j))
    (hu : P.underlying ty = some (.array n e)) (hi : (P.info? ty).map (·.size) = some n)
    (h : wpList P ops Q rest (a.put o.dst (.agg (arr n f))) w) : wpList P ops Q (o :: rest) a w := by
  refine wpl_wanted hw fun K hK => ?_
  have hK := hK _ _ h
  have hr := run_loadVar_mid (P := P) w g off ty ((List.range n).map f) (.array n e) (fun j v hv => by
    rw [List.getElem?_map] at hv
    obtain ⟨q, hq, rfl⟩ := Option.map_eq_some_iff.1 hv
    have hjn : j < n := by
      have := (List.getElem?_eq_some_iff.1 hq).1
      simpa using this
    rw [List.getElem?_range hjn] at hq
    obtain rfl := Option.some.inj hq
    exact hc j hjn) hu rfl (by simpa using hi)
  unfold Oper.wp execOp
  simp only [ho, hx, Instr.loadAt, Instr.sureAddr, Sem.run_bind, Sem.run_pure, Result.andThen_ok, hr]
  exact hK
end
end Go.Proofs.Ytojkngdabejjdaa

/- A law: one element is appended to a slice of the call's own. -/
namespace Go.Proofs.Ytojkngdabejjdaa
open Go.RowKit
/-- A new block of one cell. -/
theorem one_new (w : World) (v : Value) (e : TypeId) : ∀ j u, [v][j]? = some u → (w.alloc (.cells #[v] e)).cell? ⟨w.heap.size, j, none⟩ = some u := by
  intro j u h
  cases j with
  | zero => rw [World.cell?_alloc_at _ _ _ _ rfl]; simpa using h
  | succ j => simp at h
section
variable {P : Program} {ops : Array Oper} {rest : List Oper} {o : Oper} {a : Act} {w : World} {Q : Exit → Act → World → Prop}

theorem owned_ge {base e size n : Nat} {v : Value} {xs : List Value} (h : w.ownsRow base e size v n xs) : ∀ k, v.ownBlock = some k → base ≤ k := fun k hk => (h.lt k hk).1

theorem wpl_append_one (hw : Region.wanted o (yielded ops a.tmps) = true) (s x : Operand) (t : TypeId) (hop : o.op = .call { callee := .builtin .append, args := #[s, x], argTypes := #[t, t] })
    (base e : Nat) (z : Value) (size bytes : Nat) (ht : P.underlying t = some (.slice e)) (hinfo : (P.info? e).map (fun i => (i.zero, i.size, i.bytes)) = some (some z, size, bytes))
    (hzs : z.cells.size = size) (hsz : 0 < size) (hby : bytes ≤ 1024)
    (v : Value) (n : Nat) (xs : List Value) (hs : a.eval s = v) (hown : w.ownsRow base e size v n xs)
    (g : Nat) (hx : a.eval x = .slice (some ⟨g, 0, none⟩) 1 1) (news : List Value) (hl : news.length = size) (hc : ∀ j u, news[j]? = some u → w.cell? ⟨g, j, none⟩ = some u) (h1 : ∀ u ∈ news, u.oneCell' = true)
    (hn : n ≤ 100000000000) (hbase : base ≤ w.heap.size)
    (h : ∀ v' w', w'.ownsRow base e size v' (n + 1) (xs ++ news) → Below base w w' → wpList P ops Q rest (a.put o.dst v') w') : wpList P ops Q (o :: rest) a w := by
  refine wpl_wanted hw fun K hK => ?_
  obtain ⟨i, hi, hz, hz1, hz2⟩ := info_parts hinfo
  have hb : (n + 1) * bytes ≤ 140737488355328 := by
    have : (n + 1) * bytes ≤ (n + 1) * 1024 := Nat.mul_le_mul_left _ hby
    omega
  obtain ⟨v', w', hr, h2, h3, _⟩ := run_append_own (P := P) w base t o.type e i z size bytes ht hi hz hz1 hz2 hzs hsz v n xs hown ⟨g, 0, none⟩ 1 1 news (by omega)
    (fun j u hj => by rw [show (⟨g, 0, none⟩ : Addr).add j = ⟨g, j, none⟩ by unfold Addr.add; split <;> simp_all]; exact hc j u hj) h1 (by unfold maxLen; omega) hb hbase
  unfold Oper.wp execOp
  simp only [hop, resolve, invoke, builtin, Sem.run_bind, Sem.run_pure, Result.andThen_ok, List.map_toArray, List.map_cons, List.map_nil, hs, hx, hr]
  exact hK _ _ (h v' w' h2 ((Below.refl base w).grown h3 hbase (owned_ge hown)))
end
end Go.Proofs.Ytojkngdabejjdaa

/- A law: elements of one cell each are appended to a slice of the call's own. -/
namespace Go.Proofs.Ytojkngdabejjdaa
open Go.RowKit
section
variable {P : Program} {ops : Array Oper} {rest : List Oper} {o : Oper} {a : Act} {w : World} {Q : Exit → Act → World → Prop}
theorem wpl_append_more (hw : Region.wanted o (yielded ops a.tmps) = true) (s x : Operand) (t : TypeId) (hop : o.op = .call { callee := .builtin .append, args := #[s, x], argTypes := #[t, t] })
    (base e : Nat) (z : Value) (size bytes : Nat) (ht : P.underlying t = some (.slice e)) (hinfo : (P.info? e).map (fun i => (i.zero, i.size, i.bytes)) = some (some z, size, bytes))
    (hzs : z.cells.size = size) (hsz : 0 < size) (hby : bytes ≤ 1024)
    (v : Value) (n : Nat) (xs : List Value) (hs : a.eval s = v) (hown : w.ownsRow base e size v n xs)
    (ad : Addr) (m c : Nat) (hx : a.eval x = .slice (some ad) m c) (news : List Value) (hl : news.length = m * size) (hc : ∀ j u, news[j]? = some u → w.cell? (ad.add j) = some u) (h1 : ∀ u ∈ news, u.oneCell' = true)
    (hn : n + m ≤ 100000000000) (hbase : base ≤ w.heap.size)
    (h : ∀ v' w', w'.ownsRow base e size v' (n + m) (xs ++ news) → Below base w w' → wpList P ops Q rest (a.put o.dst v') w') : wpList P ops Q (o :: rest) a w := by
  refine wpl_wanted hw fun K hK => ?_
  obtain ⟨i, hi, hz, hz1, hz2⟩ := info_parts hinfo
  have hb : (n + m) * bytes ≤ 140737488355328 := by
    have : (n + m) * bytes ≤ (n + m) * 1024 := Nat.mul_le_mul_left _ hby
    omega
  obtain ⟨v', w', hr, h2, h3, _⟩ := run_append_own (P := P) w base t o.type e i z size bytes ht hi hz hz1 hz2 hzs hsz v n xs hown ad m c news hl hc h1 (by unfold maxLen; omega) hb hbase
  unfold Oper.wp execOp
  simp only [hop, resolve, invoke, builtin, Sem.run_bind, Sem.run_pure, Result.andThen_ok, List.map_toArray, List.map_cons, List.map_nil, hs, hx, hr]
  exact hK _ _ (h v' w' h2 ((Below.refl base w).grown h3 hbase (owned_ge hown)))

/-- A written-out row of no cells. -/
theorem wpl_buildSlice_void (hw : Region.wanted o (yielded ops a.tmps) = true) (t e : TypeId) (hop : o.op = .buildSlice t 0 #[]) (ht : P.underlying t = some (.slice e)) (hs : (P.info? e).map (·.size) = some 1)
    (h : wpList P ops Q rest (a.put o.dst (.slice (some ⟨w.heap.size, 0, none⟩) 0 0)) (w.alloc (.cells #[] e))) : wpList P ops Q (o :: rest) a w := by
  refine wpl_wanted hw fun K hK => ?_
  have hK := hK _ _ h
  obtain ⟨ie, hie, hse⟩ := Option.map_eq_some_iff.1 hs
  unfold Oper.wp execOp
  simp [hop, Instr.buildSlice, Sem.run_bind, run_underlying ht w, sizeOf, typeInfo, hie, Instr.fill, newRow, newObj, Oper.upon]
  rw [show (Array.range 0).map (fun _ => (default : Value)) = #[] from by apply Array.ext_getElem?; intro i; simp]
  exact hK
/-- A slice compared with nil. -/
theorem wpl_eql_nil (hw : Region.wanted o (yielded ops a.tmps) = true) (t t' e : TypeId) (x y : Operand) (hop : o.op = .binOp .eql t x y t') (oa : Option Addr) (n c : Nat)
    (hx : a.eval x = .slice oa n c) (hy : a.eval y = .slice none 0 0) (ht : P.underlying t = some (.slice e))
    (h : wpList P ops Q rest (a.put o.dst (.bool oa.isNone)) w) : wpList P ops Q (o :: rest) a w := by
  refine wpl_wanted hw fun K hK => ?_
  have hK := hK _ _ h
  have h1 := Go.Lib.run_eql_slice_nil (P := P) w t e oa n c 0 0 ht
  have h2 : (eqGuard .eql t x y (.slice oa n c) (.slice none 0 0)).run P w = .ok () w := by simp [eqGuard, Sem.run_pure]
  unfold Oper.wp execOp
  simp only [hop, hx, hy, Sem.run_bind, h2, Result.andThen_ok, h1]
  exact hK
end
theorem owns_void (w : World) (e : Nat) : (w.alloc (.cells #[] e)).ownsRow w.heap.size e 1 (.slice (some ⟨w.heap.size, 0, none⟩) 0 0) 0 [] :=
  World.ownsRow_lit w #[] 0 (Nat.le_refl _) (by unfold maxLen; omega) rfl
end Go.Proofs.Ytojkngdabejjdaa

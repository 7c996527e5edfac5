/- Laws: single operations of a region that draws its order: choices, tests of numbers, fields, lengths. No program in sight. -/
import Derived.Test.YtojkngdabejjdaaInvA
import Derived.Test.YtojkngdabejjdaaMsA
import Derived.Test.YtojkngdabejjdaaBase
set_option linter.unusedVariables false
set_option linter.unusedSimpArgs false

namespace Go.Proofs.Ytojkngdabejjdaa
open Go.RowKit
section
variable {P : Program} {Q : Exit → Act → World → Prop} {o : Oper} {a : Act} {w : World}
theorem wp_pick (c x y : Operand) (hop : o.op = .pick c x y) (b : Bool) (hc : a.eval c = .bool b) (v : Value) (hv : (if b then a.eval x else a.eval y) = v) :
    o.wp P a w (fun a' w' => a' = a.put o.dst v ∧ Below w.heap.size w w') Q := by
  subst hv
  unfold Oper.wp execOp
  cases b <;> simp [hop, hc, asBool, Sem.run_bind, Oper.upon] <;> exact Below.refl _ _
theorem wp_pickT (c x y : Operand) (hop : o.op = .pick c x y) (hc : a.eval c = .bool true) (v : Value) (hv : a.eval x = v) :
    o.wp P a w (fun a' w' => a' = a.put o.dst v ∧ Below w.heap.size w w') Q := wp_pick c x y hop true hc v (by rw [if_pos rfl]; exact hv)
theorem wp_pickF (c x y : Operand) (hop : o.op = .pick c x y) (hc : a.eval c = .bool false) (v : Value) (hv : a.eval y = v) :
    o.wp P a w (fun a' w' => a' = a.put o.dst v ∧ Below w.heap.size w w') Q := wp_pick c x y hop false hc v (by rw [if_neg (by decide)]; exact hv)
theorem wp_field (T : TypeId) (x : Operand) (i : Nat) (hop : o.op = .fieldAddr T x i) (fs : Array Field) (hu : P.underlying T = some (.struct fs)) (f : Field) (hf : fs[i]? = some f) (sz : Nat) (hs : (P.info? f.type).map (·.size) = some sz) (hsz : sz ≠ 0)
    (g off : Nat) (hx : a.eval x = .pointer (some ⟨g, off, none⟩)) : o.wp P a w (fun a' w' => a' = a.put o.dst (.pointer (some ⟨g, off + f.offset, none⟩)) ∧ Below w.heap.size w w') Q := by
  obtain ⟨ie, hie, hse⟩ := Option.map_eq_some_iff.1 hs
  have hne : ¬ ie.size = 0 := by rw [hse]; exact hsz
  have hadd : (⟨g, off, none⟩ : Addr).add f.offset = ⟨g, off + f.offset, none⟩ := by unfold Addr.add; split <;> simp_all
  unfold Oper.wp execOp
  simp [hop, hx, Instr.fieldAt, run_underlying hu w, hf, Instr.sureAddr, fieldPlace, sizeOf, typeInfo, hie, hne, Sem.run_bind, Oper.upon, hadd]
  exact Below.refl _ _
def cmpB (op : BinOp) (x y : Int) : Bool := match op with
  | .eql => x == y | .neq => x != y | .lss => decide (x < y) | .leq => decide (x ≤ y) | .gtr => decide (x > y) | .geq => decide (x ≥ y) | _ => false
def isCmp (op : BinOp) : Bool := match op with
  | .eql | .neq | .lss | .leq | .gtr | .geq => true | _ => false
theorem wp_cmp (op : BinOp) (t t' : TypeId) (x y : Operand) (hop : o.op = .binOp op t x y t') (h : isCmp op = true) (k : IntKind) (m n : Int) (hx : a.eval x = .int k m) (hy : a.eval y = .int k n) (b : Bool) (hb : cmpB op m n = b) :
    o.wp P a w (fun a' w' => a' = a.put o.dst (.bool b) ∧ Below w.heap.size w w') Q := by
  subst hb
  unfold Oper.wp execOp
  cases op <;> first | (cases h; done) | (simp [hop, hx, hy, eqGuard, binOp, Op.intCmp, Sem.run_bind, Oper.upon, cmpB]; exact Below.refl _ _)
theorem wp_len (x : Operand) (t e : TypeId) (ht : P.underlying t = some (.slice e)) (hop : o.op = .call { callee := .builtin .len, args := #[x], argTypes := #[t] }) (oa : Option Addr) (n c : Nat) (hx : a.eval x = .slice oa n c) :
    o.wp P a w (fun a' w' => a' = a.put o.dst (.int .i64 n) ∧ Below w.heap.size w w') Q := by
  unfold Oper.wp execOp
  simp [hop, hx, resolve, invoke, builtin, Builtin.len_, run_underlying ht w, goInt, Sem.run_bind, Oper.upon]
  exact Below.refl _ _
theorem wp_load_slice (t e : TypeId) (x : Operand) (hop : o.op = .load t x) (ad : Addr) (hx : a.eval x = .pointer (some ad)) (ht : P.underlying t = some (.slice e)) (v : Value) (hc : w.cell? ad = some v) :
    o.wp P a w (fun a' w' => a' = a.put o.dst v ∧ Below w.heap.size w w') Q := by
  unfold Oper.wp execOp
  simp [hop, hx, Instr.loadAt, Instr.sureAddr, loadVar, isAgg, run_underlying ht w, Sem.run_bind, hc, Oper.upon]
  exact Below.refl _ _
/-- Where a struct's field lies. -/
def fieldB (P : Program) (T i off sz : Nat) : Bool := match P.underlying T with
  | some (.struct fs) => (match fs[i]? with
    | some f => f.offset == off && decide ((P.info? f.type).map (·.size) = some sz) && decide (sz ≠ 0)
    | none => false)
  | _ => false
theorem wp_fieldB (T : TypeId) (x : Operand) (i : Nat) (hop : o.op = .fieldAddr T x i) (off0 sz : Nat) (hB : fieldB P T i off0 sz = true)
    (g off : Nat) (hx : a.eval x = .pointer (some ⟨g, off, none⟩)) : o.wp P a w (fun a' w' => a' = a.put o.dst (.pointer (some ⟨g, off + off0, none⟩)) ∧ Below w.heap.size w w') Q := by
  unfold fieldB at hB
  split at hB
  · rename_i fs hu
    split at hB
    · rename_i f hf
      simp only [Bool.and_eq_true, beq_iff_eq, decide_eq_true_eq] at hB
      obtain ⟨⟨h1, h2⟩, h3⟩ := hB
      subst h1
      exact wp_field T x i hop fs hu f hf sz h2 h3 g off hx
    · cases hB
  · cases hB
/-- A struct's zero value and its fields' places. -/
def layout (P : Program) (T : Nat) : Option (Value × List (Nat × Nat)) := match P.info? T, P.underlying T with
  | some it, some (.struct fields) => (match it.zero, fields.toList.mapM (fun f => (P.info? f.type).map fun i => (f.offset, i.size)) with
    | some z, some places => some (z, places)
    | _, _ => none)
  | _, _ => none
theorem built_layout {T : Nat} {z : Value} {pl : List (Nat × Nat)} (h : layout P T = some (z, pl)) (parts : List (Nat × Value)) : P.built T parts = Instr.fill (pl.toArray[·]?) z.cells parts := by
  unfold layout at h
  split at h
  · rename_i it fields h1 h2
    split at h
    · rename_i z' pl' h3 h4
      injection h with h
      injection h with e1 e2
      subst e1; subst e2
      unfold Program.built
      simp only [h1, h2, h3, h4]
    · cases h
  · cases h
theorem fold_set (off : Nat) : ∀ (l : List Value) (k : Nat) (cells : Array Value) (i : Nat), ((l.zipIdx k).foldl (fun cs p => cs.setIfInBounds (off + p.2) p.1) cells)[i]? = if off + k ≤ i ∧ i < off + k + l.length ∧ i < cells.size then l[i - (off + k)]? else cells[i]?
  | [], k, cells, i => by
    simp only [List.zipIdx_nil, List.foldl_nil, List.length_nil]
    rw [if_neg (by omega)]
  | v :: l, k, cells, i => by
    rw [List.zipIdx_cons, List.foldl_cons, fold_set off l (k + 1), Array.size_setIfInBounds, Array.getElem?_setIfInBounds, List.length_cons]
    by_cases h1 : off + k = i
    · subst h1
      rw [if_neg (by omega), if_pos rfl]
      by_cases h2 : off + k < cells.size
      · rw [if_pos h2, if_pos (by omega), Nat.sub_self]; rfl
      · rw [if_neg h2, if_neg (by omega), Array.getElem?_eq_none (by omega)]
    · by_cases h2 : off + (k + 1) ≤ i ∧ i < off + (k + 1) + l.length ∧ i < cells.size
      · rw [if_pos h2, if_pos (by omega), show i - (off + k) = (i - (off + (k + 1))) + 1 by omega, List.getElem?_cons_succ]
      · rw [if_neg h2, if_neg h1, if_neg (by omega)]
theorem fold_setA (off : Nat) (c cells : Array Value) (i : Nat) : (c.zipIdx.foldl (fun cs (x : Value × Nat) => cs.setIfInBounds (off + x.2) x.1) cells)[i]? = if off ≤ i ∧ i < off + c.size ∧ i < cells.size then c[i - off]? else cells[i]? := by
  rw [← Array.foldl_toList, Array.toList_zipIdx, fold_set]
  simp
theorem size_fold_set (off : Nat) (c cells : Array Value) : (c.zipIdx.foldl (fun cs (x : Value × Nat) => cs.setIfInBounds (off + x.2) x.1) cells).size = cells.size := by
  rw [← Array.foldl_toList]
  generalize c.zipIdx.toList = l
  induction l generalizing cells with
  | nil => rfl
  | cons v l ih => rw [List.foldl_cons, ih, Array.size_setIfInBounds]
theorem built_two {T s0 s1 : Nat} {z : Array Value} (h : layout P T = some (.agg z, [(0, s0), (s0, s1)])) (hz : z.size = s0 + s1) (v0 v1 : Value) (h0 : v0.cells.size = s0) (h1 : v1.cells.size = s1) :
    P.built T [(0, v0), (1, v1)] = some (v0.cells ++ v1.cells) := by
  rw [built_layout h]
  have e0 : Value.cells (.agg z) = z := rfl
  rw [e0]
  unfold Instr.fill
  simp only [List.getElem?_toArray, List.getElem?_cons_zero]
  rw [if_neg (by simp; omega)]
  unfold Instr.fill
  simp only [List.getElem?_toArray, List.getElem?_cons_succ, List.getElem?_cons_zero]
  rw [if_neg (by rw [size_fold_set]; simp; omega)]
  unfold Instr.fill
  congr 1
  apply Array.ext_getElem?
  intro i
  rw [fold_setA, size_fold_set, fold_setA, Array.getElem?_append]
  by_cases e : i < s0
  · rw [if_neg (by omega), if_pos (by omega), if_pos (by omega)]; simp
  · by_cases e2 : i < s0 + s1
    · rw [if_pos (by omega), if_neg (by omega), h0]
    · rw [if_neg (by omega), if_neg (by omega), if_neg (by omega), Array.getElem?_eq_none (by omega), Array.getElem?_eq_none (by omega)]
theorem wp_build_pair (T s0 s1 : Nat) (z : Array Value) (hl : layout P T = some (.agg z, [(0, s0), (s0, s1)])) (hz : z.size = s0 + s1) (x y : Operand) (hop : o.op = .build T #[(0, x), (1, y)]) (v0 v1 : Value) (hx : a.eval x = v0) (hy : a.eval y = v1)
    (h0 : v0.cells.size = s0) (h1 : v1.cells.size = s1) (cs : Array Value) (hc : v0.cells ++ v1.cells = cs) : o.wp P a w (fun a' w' => a' = a.put o.dst (.agg cs) ∧ Below w.heap.size w w') Q := by
  have hb := built_two (P := P) hl hz v0 v1 h0 h1
  have hr := run_build (P := P) w T #[(0, v0), (1, v1)] _ hb
  unfold Oper.wp execOp
  simp [hop, hx, hy, Sem.run_bind, hr, hc, Oper.upon]
  exact Below.refl _ _
end
/-- Two arrays, one behind the other. -/
def fmF (f g : Nat → Int) (j : Nat) : Int := if j < 64 then f j else g (j - 64)
theorem fmF_app (f g : Nat → Int) : u8s 64 f ++ u8s 64 g = u8s 128 (fmF f g) := by
  apply Array.ext_getElem?
  intro i
  rw [Array.getElem?_append, u8s_size]
  by_cases h : i < 64
  · rw [if_pos h, u8s_get _ h, u8s_get _ (by omega)]; unfold fmF; rw [if_pos h]
  · rw [if_neg h]
    by_cases h2 : i < 128
    · rw [u8s_get _ (by omega), u8s_get _ h2]; unfold fmF; rw [if_neg h]
    · rw [Array.getElem?_eq_none (by rw [u8s_size]; omega), Array.getElem?_eq_none (by rw [u8s_size]; omega)]
theorem fmF_A (f g : Nat → Int) : u8s 64 (fun j => fmF f g (0 + j)) = u8s 64 f := u8s_ext fun j hj => by unfold fmF; rw [if_pos (by omega), Nat.zero_add]
theorem fmF_B (f g : Nat → Int) : u8s 64 (fun j => fmF f g (64 + j)) = u8s 64 g := u8s_ext fun j hj => by unfold fmF; rw [if_neg (by omega), Nat.add_sub_cancel_left]
theorem fmF_self (F : Nat → Int) : u8s 128 F = u8s 128 (fmF F (fun j => F (64 + j))) := u8s_ext fun j hj => by
  unfold fmF
  by_cases h : j < 64
  · rw [if_pos h]
  · rw [if_neg h]; exact congrArg F (by omega)
section
variable {P : Program} {Q : Exit → Act → World → Prop} {o : Oper} {a : Act} {w : World}
theorem wp_load_A (ty : TypeId) (x : Operand) (ho : o.op = .load ty x) (g : Nat) (hx : a.eval x = .pointer (some ⟨g, 0 + 0, none⟩)) {e : Nat} (f f' : Nat → Int) (T : TypeId) (hb : Blk w g (u8s 128 (fmF f f')) T)
    (hu : P.underlying ty = some (.array 64 e)) (hi : (P.info? ty).map (·.size) = some 64) :
    o.wp P a w (fun a' w' => a' = a.put o.dst (.agg (u8s 64 f)) ∧ Below w.heap.size w w') Q := by
  have := wp_load_midB (P := P) (Q := Q) ty x ho g 0 hx 128 64 e (fmF f f') T hb (by omega) hu hi
  rwa [fmF_A] at this
theorem wp_load_B (ty : TypeId) (x : Operand) (ho : o.op = .load ty x) (g : Nat) (hx : a.eval x = .pointer (some ⟨g, 0 + 64, none⟩)) {e : Nat} (f f' : Nat → Int) (T : TypeId) (hb : Blk w g (u8s 128 (fmF f f')) T)
    (hu : P.underlying ty = some (.array 64 e)) (hi : (P.info? ty).map (·.size) = some 64) :
    o.wp P a w (fun a' w' => a' = a.put o.dst (.agg (u8s 64 f')) ∧ Below w.heap.size w w') Q := by
  have := wp_load_midB (P := P) (Q := Q) ty x ho g 64 hx 128 64 e (fmF f f') T hb (by omega) hu hi
  rwa [fmF_B] at this
end
section
variable {P : Program} {ops : Array Oper} {rest : List Oper} {o : Oper} {a : Act} {w : World} {Q : Exit → Act → World → Prop}
def strB (P : Program) (T : Nat) : Bool := match P.underlying T with | some (.struct _) => true | _ => false
theorem strB_spec {T : Nat} (h : strB P T = true) : ∃ fs, P.underlying T = some (.struct fs) := by
  unfold strB at h
  split at h
  · exact ⟨_, ‹_›⟩
  · cases h
/-- A whole struct is loaded. -/
theorem wpl_load_str (hw : Region.wanted o (yielded ops a.tmps) = true) (ty : TypeId) (x : Operand) (ho : o.op = .load ty x) (g : Nat) (hx : a.eval x = .pointer (some ⟨g, 0, none⟩)) (t : TypeId) (cs : Array Value) (hb : Blk w g cs t)
    (hu : strB P ty = true) (hi : (P.info? ty).map (·.size) = some cs.size) (h : wpList P ops Q rest (a.put o.dst (.agg cs)) w) : wpList P ops Q (o :: rest) a w := by
  obtain ⟨fs, hf⟩ := strB_spec hu
  exact wpl_wanted hw fun _ hK => wp_load_row ty x ho g hx t cs _ _ hb hf rfl hi (hK _ _ h)
theorem wp_loadS (ty : TypeId) (x : Operand) (ho : o.op = .load ty x) (g : Nat) (hx : a.eval x = .pointer (some ⟨g, 0, none⟩)) (t : TypeId) (cs : Array Value) (hb : Blk w g cs t)
    (hu : strB P ty = true) (hi : (P.info? ty).map (·.size) = some cs.size) : o.wp P a w (fun a' w' => a' = a.put o.dst (.agg cs) ∧ Below w.heap.size w w') Q := by
  obtain ⟨fs, hf⟩ := strB_spec hu
  exact wp_load_row ty x ho g hx t cs _ _ hb hf rfl hi ⟨rfl, Below.refl _ _⟩
variable {fn : Func} {tmps : Array Value}
theorem res_s {p : Tmp} {ty : TypeId} (h : fn.results = #[.cell p ty]) {g t : Nat} {cs : Array Value} (hp : tmps.getD p undef = .pointer (some ⟨g, 0, none⟩)) (hb : Blk w g cs t)
    (hu : strB P ty = true) (hi : (P.info? ty).map (·.size) = some cs.size) : (results fn tmps).run P w = .ok (.agg cs) w := by
  obtain ⟨fs, hf⟩ := strB_spec hu
  exact results_cell_row h tmps w g t cs _ _ hp hb hf rfl hi
theorem res_st {p u : Tmp} {ty : TypeId} (h : fn.results = #[.cell p ty, .tmp u]) {g t : Nat} {cs : Array Value} (hp : tmps.getD p undef = .pointer (some ⟨g, 0, none⟩)) (hb : Blk w g cs t)
    (hu : strB P ty = true) (hi : (P.info? ty).map (·.size) = some cs.size) {x : Value} (hx : tmps.getD u undef = x) : (results fn tmps).run P w = .ok (.tuple #[.agg cs, x]) w := by
  obtain ⟨fs, hf⟩ := strB_spec hu
  have hp' : tmps[p]?.getD undef = .pointer (some ⟨g, 0, none⟩) := by simpa using hp
  have hx' : tmps[u]?.getD undef = x := by simpa using hx
  simp [results, h, hp', hx', asAddr, run_loadVar_row w g t ty cs _ _ hb hf rfl hi]
theorem wpl_build_pair (hw : Region.wanted o (yielded ops a.tmps) = true) (T s0 s1 : Nat) (z : Array Value) (hl : layout P T = some (.agg z, [(0, s0), (s0, s1)])) (hz : z.size = s0 + s1) (x y : Operand) (hop : o.op = .build T #[(0, x), (1, y)]) (v0 v1 : Value) (hx : a.eval x = v0) (hy : a.eval y = v1)
    (h0 : v0.cells.size = s0) (h1 : v1.cells.size = s1) (cs : Array Value) (hc : v0.cells ++ v1.cells = cs) (h : wpList P ops Q rest (a.put o.dst (.agg cs)) w) : wpList P ops Q (o :: rest) a w := by
  refine wpl_wanted hw fun K hK => ?_
  have hK := hK _ _ h
  have hb := built_two (P := P) hl hz v0 v1 h0 h1
  have hr := run_build (P := P) w T #[(0, v0), (1, v1)] _ hb
  unfold Oper.wp execOp
  simp [hop, hx, hy, Sem.run_bind, hr, hc, Oper.upon]
  exact hK
theorem wpl_load_A (hw : Region.wanted o (yielded ops a.tmps) = true) (ty : TypeId) (x : Operand) (ho : o.op = .load ty x) (g : Nat) (hx : a.eval x = .pointer (some ⟨g, 0, none⟩)) (e : Nat) (f f' : Nat → Int) (T : TypeId) (hb : Blk w g (u8s 128 (fmF f f')) T)
    (hu : P.underlying ty = some (.array 64 e)) (hi : (P.info? ty).map (·.size) = some 64) (h : wpList P ops Q rest (a.put o.dst (.agg (u8s 64 f))) w) : wpList P ops Q (o :: rest) a w :=
  wpl_load_mid hw ty x ho g 0 hx 64 e (fun j => .int .u8 (f j)) (fun j hj => by rw [hb.cell, u8s_get _ (by omega)]; unfold fmF; rw [if_pos (by omega), Nat.zero_add]) hu hi h
theorem wpl_load_B (hw : Region.wanted o (yielded ops a.tmps) = true) (ty : TypeId) (x : Operand) (ho : o.op = .load ty x) (g : Nat) (hx : a.eval x = .pointer (some ⟨g, 64, none⟩)) (e : Nat) (f f' : Nat → Int) (T : TypeId) (hb : Blk w g (u8s 128 (fmF f f')) T)
    (hu : P.underlying ty = some (.array 64 e)) (hi : (P.info? ty).map (·.size) = some 64) (h : wpList P ops Q rest (a.put o.dst (.agg (u8s 64 f'))) w) : wpList P ops Q (o :: rest) a w :=
  wpl_load_mid hw ty x ho g 64 hx 64 e (fun j => .int .u8 (f' j)) (fun j hj => by rw [hb.cell, u8s_get _ (by omega)]; unfold fmF; rw [if_neg (by omega), Nat.add_sub_cancel_left]) hu hi h
end
theorem fmF_setA (f f' g : Nat → Int) : u8s 128 (fun j => if 0 ≤ j ∧ j < 0 + 64 then g (j - 0) else fmF f f' j) = u8s 128 (fmF g f') := u8s_ext fun j hj => by
  unfold fmF
  by_cases h : j < 64
  · rw [if_pos (by omega), if_pos h, Nat.sub_zero]
  · rw [if_neg (by omega), if_neg h, if_neg h]
theorem fmF_setB (f f' g : Nat → Int) : u8s 128 (fun j => if 64 ≤ j ∧ j < 64 + 64 then g (j - 64) else fmF f f' j) = u8s 128 (fmF f g) := u8s_ext fun j hj => by
  unfold fmF
  by_cases h : j < 64
  · rw [if_neg (by omega), if_pos h, if_pos h]
  · rw [if_pos (by omega), if_neg h]
theorem fmF_zero : u8s 128 (fun _ => 0) = u8s 128 (fmF (fun _ => 0) (fun _ => 0)) := u8s_ext fun j hj => by unfold fmF; split <;> rfl
end Go.Proofs.Ytojkngdabejjdaa

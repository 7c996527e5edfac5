/- Laws for single operations on arrays told by functions: a variable of zeros, a whole array read or stored, an element, equality. -/
import Derived.Test.YthkkicanockhgaaMem
import Derived.Deep.WholeRow
namespace Go.Proofs.Ythkkicanockhgaa
open Go.RowKit

section
variable {P : Program} {ops : Array Oper} {rest : List Oper} {o : Oper} {a : Act} {w : World} {Q : Exit → Act → World → Prop}

/-- The operation is run (it has no guard, or its guard says yes). -/
theorem wpl_wanted (hw : Region.wanted o (yielded ops a.tmps) = true)
    (h : ∀ K : Act → World → Prop, (∀ a w, wpList P ops Q rest a w → K a w) → o.wp P a w K Q) : wpList P ops Q (o :: rest) a w :=
  wpList_step fun K hK => by rw [if_pos hw]; exact h K hK

/-- A whole array is read. -/
theorem wpl_load_arr (hw : Region.wanted o (yielded ops a.tmps) = true) (ty : TypeId) (x : Operand) (ho : o.op = .load ty x)
    (g : Nat) (hx : a.eval x = .pointer (some ⟨g, 0, none⟩)) (t : TypeId) (cs : Array Value) (hb : Blk w g cs t) (n e : Nat)
    (hu : P.underlying ty = some (.array n e)) (hi : (P.info? ty).map (·.size) = some cs.size)
    (h : wpList P ops Q rest (a.put o.dst (.agg cs)) w) : wpList P ops Q (o :: rest) a w :=
  wpl_wanted hw fun _ hK => wp_load_row ty x ho g hx t cs _ _ hb hu rfl hi (hK _ _ h)

theorem wpl_alloc_arr (hw : Region.wanted o (yielded ops a.tmps) = true) (t : TypeId) (hop : o.op = .alloc t) (cs : Array Value)
    (hz : (P.info? t).bind (·.zero) = some (.agg cs))
    (h : wpList P ops Q rest (a.put o.dst (.pointer (some ⟨w.heap.size, 0, none⟩))) (w.alloc (.cells cs t))) : wpList P ops Q (o :: rest) a w := by
  refine wpl_wanted hw fun K hK => ?_
  obtain ⟨i, hi, hz⟩ := Option.bind_eq_some_iff.1 hz
  have hK := hK _ _ h
  unfold Oper.wp execOp
  simp [hop, Instr.alloc, zeroValue, typeInfo, hi, hz, newVar, newRow, newObj, Sem.run_bind, Value.cells, Oper.upon]
  exact hK

theorem wpl_store_arr (hw : Region.wanted o (yielded ops a.tmps) = true) (t : TypeId) (x y : Operand) (hop : o.op = .store t x y) (g : Nat) (hx : a.eval x = .pointer (some ⟨g, 0, none⟩))
    (cs : Array Value) (hy : a.eval y = .agg cs) (old : Array Value) (T : TypeId) (hb : Blk w g old T) (hs : (P.info? t).map (·.size) = some cs.size) (ho : old.size = cs.size)
    (h1 : cs.all (·.oneCell') = true)
    (h : wpList P ops Q rest (a.put o.dst undef) (w.setRow g cs)) : wpList P ops Q (o :: rest) a w := by
  refine wpl_wanted hw fun K hK => ?_
  have hK := hK _ _ h
  have hr := run_storeCells_from (P := P) g T cs.toList 0 old w hb (by simp [ho]) (fun v hv => (Array.all_eq_true_iff_forall_mem.1 h1) v (by simpa using hv))
  simp only [List.take_zero, List.nil_append, Array.toArray_toList] at hr
  obtain ⟨i, hi, hsz⟩ := Option.map_eq_some_iff.1 hs
  unfold Oper.wp execOp
  simp only [hop, hx, hy, Instr.storeAt, Instr.sureAddr, storeVar, sizeOf, typeInfo, Value.cells]
  simp [Sem.run_bind, hi, hsz, hr, Oper.upon]
  exact hK

/-- The zero value of an array's type, written out ('Poly{}'). -/
theorem wpl_build_zero (hw : Region.wanted o (yielded ops a.tmps) = true) (t n e : Nat) (hop : o.op = .build t #[]) (cs : Array Value) (ht : P.underlying t = some (.array n e)) (hs : (P.info? e).map (·.size) = some 1)
    (hz : (P.info? t).bind (·.zero) = some (.agg cs))
    (h : wpList P ops Q rest (a.put o.dst (.agg cs)) w) : wpList P ops Q (o :: rest) a w := by
  refine wpl_wanted hw fun K hK => ?_
  obtain ⟨i, hi, hz⟩ := Option.bind_eq_some_iff.1 hz
  obtain ⟨ie, hie, hse⟩ := Option.map_eq_some_iff.1 hs
  have hK := hK _ _ h
  unfold Oper.wp execOp
  simp [hop, Instr.build, zeroValue, typeInfo, hi, hz, Sem.run_bind, Value.cells, run_underlying ht w, sizeOf, hie, Instr.fill, Oper.upon]
  exact hK

/-- A whole array is stored into the variable that has just been laid. -/
theorem wpl_store_new {w0 : World} {old : Array Value} {T : TypeId} (hw : Region.wanted o (yielded ops a.tmps) = true) (t : TypeId) (x y : Operand) (hop : o.op = .store t x y) (g : Nat) (hx : a.eval x = .pointer (some ⟨g, 0, none⟩)) (hg : g = w0.heap.size)
    (cs : Array Value) (hy : a.eval y = .agg cs) (hs : (P.info? t).map (·.size) = some cs.size) (ho : old.size = cs.size) (h1 : cs.all (·.oneCell') = true)
    (h : wpList P ops Q rest (a.put o.dst undef) (w0.alloc (.cells cs T))) : wpList P ops Q (o :: rest) a (w0.alloc (.cells old T)) := by
  subst hg
  refine wpl_store_arr hw t x y hop _ hx cs hy old T (Blk.new w0 old T) hs ho h1 ?_
  rw [World.setRow_alloc_new]
  exact h

theorem Blk.setRow_same {w : World} {g : Nat} {old cs : Array Value} {t : TypeId} (h : Blk w g old t) : Blk (w.setRow g cs) g cs t := setRow_heap w g old cs t _ h
theorem Blk.setRow_other {w : World} {g k : Nat} {old cs : Array Value} {t : TypeId} (h : Blk w k old t) (hne : k ≠ g) : Blk (w.setRow g cs) k old t := by
  unfold Blk; rw [_root_.Go.setRow_other w g k cs hne]; exact h
theorem below_setRow {B : Nat} {a w : World} (h : Below B a w) {g : Nat} (hg : B ≤ g) (cs : Array Value) : Below B a (w.setRow g cs) :=
  h.trans ⟨rfl, rfl, rfl, by simp, fun k hk => _root_.Go.setRow_other w g k cs (by omega)⟩

/-- Equality of two arrays of one-cell integers. -/
theorem run_equal_arr (d : Nat) (t e : TypeId) (k : IntKind) (n : Nat) (f g : Nat → Int) (ht : P.underlying t = some (.array n e)) (he : P.underlying e = some (.int k)) (hs : (P.info? e).map (·.size) = some 1) :
    (Op.equalIn (d + 2) t (.agg (arr n fun i => .int k (f i))) (.agg (arr n fun i => .int k (g i)))).run P w = .ok (decide (∀ i, i < n → f i = g i)) w := by
  obtain ⟨i, hi, hsz⟩ := Option.map_eq_some_iff.1 hs
  have hsize : (sizeOf e).run P w = .ok 1 w := by simp [sizeOf, typeInfo, hi, hsz, Sem.run_bind]
  have hpart : ∀ (F : Nat → Int) (j : Nat), j < n → (part e (arr n fun i => .int k (F i)) j).run P w = .ok (.int k (F j)) w := by
    intro F j hj
    have hag : (isAgg e).run P w = .ok false w := by unfold isAgg; rw [Sem.run_bind, run_underlying he w]; rfl
    simp [part, Sem.run_bind, hag, arr_get_lt _ hj]
  have hone : ∀ (j : Nat), j < n → (Op.equalIn (d + 1) e (.int k (f j)) (.int k (g j))).run P w = .ok (f j == g j) w := fun j _ => run_equalIn_int w d e k k (f j) (g j) he
  have hloop : ∀ l : List Nat, (∀ j ∈ l, j < n) →
      (forIn l ((none : Option Bool), ()) (fun i _ => do
            let x ← part e (arr n fun i => Value.int k (f i)) (i * 1)
            let y ← part e (arr n fun i => Value.int k (g i)) (i * 1)
            let b ← Op.equalIn (d + 1) e x y
            if (!b) = true then pure (ForInStep.done (some false, ())) else pure (ForInStep.yield (none, ())))).run P w
        = .ok (if ∀ j ∈ l, f j = g j then none else some false, ()) w := by
    intro l
    induction l with
    | nil => intro _; simp
    | cons j l ih =>
      intro hl
      have hj : j < n := hl j (by simp)
      have ih' := ih (fun m hm => hl m (by simp [hm]))
      simp only [List.forIn_cons, Sem.run_bind, Nat.mul_one, hpart f j hj, hpart g j hj, hone j hj, Result.andThen_ok] at ih' ⊢
      by_cases e1 : f j = g j
      · simp only [e1, beq_self_eq_true, Bool.not_true, Bool.false_eq_true, if_false, Sem.run_pure, Result.andThen_ok]
        rw [ih']
        simp [e1]
      · have e2 : (f j == g j) = false := by simpa using e1
        simp only [e2, Bool.not_false, if_true, Sem.run_pure, Result.andThen_ok]
        simp [e1]
  rw [Op.equalIn.eq_def]
  simp only [Sem.run_bind, run_underlying ht w, Result.andThen_ok, hsize, Std.Legacy.Range.forIn_eq_forIn_range']
  rw [hloop _ (by intro j hj; simp at hj; omega)]
  simp only [Result.andThen_ok]
  by_cases hall : ∀ i, i < n → f i = g i
  · rw [if_pos (by intro j hj; simp at hj; exact hall j (by omega))]
    simp only [Sem.run_pure]; rw [decide_eq_true hall]
  · rw [if_neg (by intro h2; exact hall fun i hi => h2 i (by simp; omega))]
    simp only [Sem.run_pure, hall, decide_false]

theorem wpl_eql_arr (hw : Region.wanted o (yielded ops a.tmps) = true) (t t' : TypeId) (x y : Operand) (hop : o.op = .binOp .eql t x y t') (n : Nat) (k : IntKind) (f g : Nat → Int) (e : TypeId)
    (hx : a.eval x = .agg (arr n fun i => .int k (f i))) (hy : a.eval y = .agg (arr n fun i => .int k (g i)))
    (ht : P.underlying t = some (.array n e)) (he : P.underlying e = some (.int k)) (hs : (P.info? e).map (·.size) = some 1) (hm : P.eqGuardType P.depth t = false)
    (b : Bool) (hb : decide (∀ i, i < n → f i = g i) = b)
    (h : wpList P ops Q rest (a.put o.dst (.bool b)) w) : wpList P ops Q (o :: rest) a w := by
  refine wpl_wanted hw fun K hK => ?_
  have hK := hK _ _ h
  have h1 := run_equal_arr (P := P) (w := w) 9998 t e k n f g ht he hs
  have h2 := run_eqGuard_agg (P := P) w .eql t x y (arr n fun i => .int k (f i)) (arr n fun i => .int k (g i)) hm
  unfold Oper.wp execOp
  simp only [hop, hx, hy, Sem.run_bind, h2, Result.andThen_ok, run_eql_struct, h1, hb]
  exact hK

theorem wpl_neq_arr (hw : Region.wanted o (yielded ops a.tmps) = true) (t t' : TypeId) (x y : Operand) (hop : o.op = .binOp .neq t x y t') (n : Nat) (k : IntKind) (f g : Nat → Int) (e : TypeId)
    (hx : a.eval x = .agg (arr n fun i => .int k (f i))) (hy : a.eval y = .agg (arr n fun i => .int k (g i)))
    (ht : P.underlying t = some (.array n e)) (he : P.underlying e = some (.int k)) (hs : (P.info? e).map (·.size) = some 1) (hm : P.eqGuardType P.depth t = false)
    (b : Bool) (hb : decide (∀ i, i < n → f i = g i) = b)
    (h : wpList P ops Q rest (a.put o.dst (.bool (!b))) w) : wpList P ops Q (o :: rest) a w := by
  refine wpl_wanted hw fun K hK => ?_
  have hK := hK _ _ h
  have h1 := run_equal_arr (P := P) (w := w) 9998 t e k n f g ht he hs
  have h2 := run_eqGuard_agg (P := P) w .neq t x y (arr n fun i => .int k (f i)) (arr n fun i => .int k (g i)) hm
  unfold Oper.wp execOp
  simp only [hop, hx, hy, Sem.run_bind, h2, Result.andThen_ok, run_neq_struct, h1, hb]
  exact hK

/-- An element of an array that lies in a slot. -/
theorem wpl_index_arr (hw : Region.wanted o (yielded ops a.tmps) = true) (t : TypeId) (x ix : Operand) (hop : o.op = .index t x ix) (n e : Nat) (cs : Array Value) (kd : TypeDesc)
    (hx : a.eval x = .agg cs) (k : IntKind) (i : Nat) (hi : a.eval ix = .int k (i : Int)) (hin : i < n)
    (ht : P.underlying t = some (.array n e)) (he : P.underlying e = some kd) (hkd : (match kd with | .struct _ | .array _ _ => false | _ => true) = true) (hs : (P.info? e).map (·.size) = some 1)
    (v : Value) (hv : cs[i]? = some v)
    (h : wpList P ops Q rest (a.put o.dst v) w) : wpList P ops Q (o :: rest) a w := by
  refine wpl_wanted hw fun K hK => ?_
  have hK := hK _ _ h
  obtain ⟨inf, hinf, hsz⟩ := Option.map_eq_some_iff.1 hs
  have hsize : (sizeOf e).run P w = .ok 1 w := by simp [sizeOf, typeInfo, hinf, hsz, Sem.run_bind]
  have hag : (isAgg e).run P w = .ok false w := by
    unfold isAgg; rw [Sem.run_bind, run_underlying he w]
    cases kd <;> simp_all
  have hcond : (0 : Int) ≤ (i : Int) ∧ (i : Int) < (n : Int) := by omega
  unfold Oper.wp execOp
  simp only [hop, hx, hi, Instr.index, asIntOf, Sem.run_bind, Sem.run_pure, Result.andThen_ok, run_underlying ht w]
  rw [if_pos hcond]
  simp only [Sem.run_bind, hsize, Result.andThen_ok, Nat.mul_one, Int.toNat_natCast, part, hag, hv]
  simp only [Bool.false_eq_true, if_false, Sem.run_pure, Result.andThen_ok]
  exact hK

end

section
variable {P : Program} {fn : Func} {tmps : Array Value} {w : World}
theorem res_c {p : Tmp} {ty n e : TypeId} (h : fn.results = #[.cell p ty]) {g t : Nat} {cs : Array Value} (hp : tmps.getD p undef = .pointer (some ⟨g, 0, none⟩)) (hb : Blk w g cs t)
    (hu : P.underlying ty = some (.array n e)) (hi : (P.info? ty).map (·.size) = some cs.size) : (results fn tmps).run P w = .ok (.agg cs) w :=
  results_cell_row h tmps w g t cs _ _ hp hb hu rfl hi
theorem res_ct {p u : Tmp} {ty n e : TypeId} (h : fn.results = #[.cell p ty, .tmp u]) {g t : Nat} {cs : Array Value} (hp : tmps.getD p undef = .pointer (some ⟨g, 0, none⟩)) (hb : Blk w g cs t)
    (hu : P.underlying ty = some (.array n e)) (hi : (P.info? ty).map (·.size) = some cs.size) {x : Value} (hx : tmps.getD u undef = x) : (results fn tmps).run P w = .ok (.tuple #[.agg cs, x]) w := by
  have hp' : tmps[p]?.getD undef = .pointer (some ⟨g, 0, none⟩) := by simpa using hp
  have hx' : tmps[u]?.getD undef = x := by simpa using hx
  simp [results, h, hp', hx', asAddr, run_loadVar_row w g t ty cs _ _ hb hu rfl hi]
theorem res_cct {p p2 u : Tmp} {ty ty2 n e n2 e2 : TypeId} (h : fn.results = #[.cell p ty, .cell p2 ty2, .tmp u]) {g t g2 t2 : Nat} {cs cs2 : Array Value} (hp : tmps.getD p undef = .pointer (some ⟨g, 0, none⟩)) (hb : Blk w g cs t)
    (hu : P.underlying ty = some (.array n e)) (hi : (P.info? ty).map (·.size) = some cs.size) (hp2 : tmps.getD p2 undef = .pointer (some ⟨g2, 0, none⟩)) (hb2 : Blk w g2 cs2 t2)
    (hu2 : P.underlying ty2 = some (.array n2 e2)) (hi2 : (P.info? ty2).map (·.size) = some cs2.size) {x : Value} (hx : tmps.getD u undef = x) : (results fn tmps).run P w = .ok (.tuple #[.agg cs, .agg cs2, x]) w := by
  have hp' : tmps[p]?.getD undef = .pointer (some ⟨g, 0, none⟩) := by simpa using hp
  have hp2' : tmps[p2]?.getD undef = .pointer (some ⟨g2, 0, none⟩) := by simpa using hp2
  have hx' : tmps[u]?.getD undef = x := by simpa using hx
  simp [results, h, hp', hp2', hx', asAddr, run_loadVar_row w g t ty cs _ _ hb hu rfl hi, run_loadVar_row w g2 t2 ty2 cs2 _ _ hb2 hu2 rfl hi2]
theorem res_cc {p p2 : Tmp} {ty ty2 n e n2 e2 : TypeId} (h : fn.results = #[.cell p ty, .cell p2 ty2]) {g t g2 t2 : Nat} {cs cs2 : Array Value} (hp : tmps.getD p undef = .pointer (some ⟨g, 0, none⟩)) (hb : Blk w g cs t)
    (hu : P.underlying ty = some (.array n e)) (hi : (P.info? ty).map (·.size) = some cs.size) (hp2 : tmps.getD p2 undef = .pointer (some ⟨g2, 0, none⟩)) (hb2 : Blk w g2 cs2 t2)
    (hu2 : P.underlying ty2 = some (.array n2 e2)) (hi2 : (P.info? ty2).map (·.size) = some cs2.size) : (results fn tmps).run P w = .ok (.tuple #[.agg cs, .agg cs2]) w := by
  have hp' : tmps[p]?.getD undef = .pointer (some ⟨g, 0, none⟩) := by simpa using hp
  have hp2' : tmps[p2]?.getD undef = .pointer (some ⟨g2, 0, none⟩) := by simpa using hp2
  simp [results, h, hp', hp2', asAddr, run_loadVar_row w g t ty cs _ _ hb hu rfl hi, run_loadVar_row w g2 t2 ty2 cs2 _ _ hb2 hu2 rfl hi2]
end
end Go.Proofs.Ythkkicanockhgaa

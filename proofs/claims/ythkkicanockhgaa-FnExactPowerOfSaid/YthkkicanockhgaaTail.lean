/- Laws for a region that draws its order: blocks that the region loads, beside calls that leave them as they are. -/
import Derived.Test.YthkkicanockhgaaOps
import Derived.Deep.RegionHeld3
import Derived.Deep.DeepCutAuto
namespace Go.Proofs.Ythkkicanockhgaa
open Go.RowKit

/-- The cells of n bytes, as a list. -/
def l8 (n : Nat) (f : Nat → Int) : List Value := (List.range n).map fun i => .int .u8 (f i)
theorem l8_arr (n : Nat) (f : Nat → Int) : (l8 n f).toArray = u8s n f := rfl
theorem l8_len (n : Nat) (f : Nat → Int) : (l8 n f).length = n := by simp [l8]
theorem l8_one (n : Nat) (f : Nat → Int) : ∀ v ∈ l8 n f, v.oneCell' = true := by
  intro v hv
  rw [l8, List.mem_map] at hv
  obtain ⟨i, _, rfl⟩ := hv
  rfl
theorem Blk.range {w : World} {g n : Nat} {f : Nat → Int} {t : TypeId} (h : Blk w g (u8s n f) t) : w.rangeAt g 0 (l8 n f) := fun j v hv => by
  rw [Nat.zero_add, h.cell]
  rw [← hv, ← l8_arr, List.getElem?_toArray]
theorem Blk.there {w : World} {g n : Nat} {f : Nat → Int} {t : TypeId} (h : Blk w g (u8s n f) t) : w.there g 0 n := fun j hj => by
  rw [Nat.zero_add]
  exact ⟨by rw [h.cell, u8s_get f hj]; rfl, h.free j⟩
theorem range_below {w w' : World} {g o : Nat} {cs : List Value} (h : w.rangeAt g o cs) (hb : Below w.heap.size w w') : w'.rangeAt g o cs := fun j v hv => by
  have := h j v hv
  rw [hb.cell (block_lt_of_cell this)]; exact this
theorem there_below {w w' : World} {g o n : Nat} (h : w.there g o n) (hb : Below w.heap.size w w') : w'.there g o n := fun j hj => by
  obtain ⟨h1, h2⟩ := h j hj
  obtain ⟨u, hu⟩ := Option.isSome_iff_exists.1 h1
  have hlt := block_lt_of_cell hu
  exact ⟨by rw [hb.cell hlt]; exact h1, by rw [hb.frozen hlt]; exact h2⟩
theorem below_setCells {B g : Nat} (hg : B ≤ g) : ∀ (vs : List Value) (o : Nat) {a w : World}, Below B a w → Below B a (w.setCells g o vs)
  | [], _, _, _, h => h
  | _ :: r, o, _, _, h => below_setCells hg r (o + 1) (h.setCell hg _)
/-- The condition of a region with one polynomial and the cell of a result; with two. -/
theorem keep1 {w w' a : World} {g1 gz n m : Nat} {f1 : Nat → Int} (h : w.rangeAt g1 0 (l8 n f1) ∧ w.there gz 0 m ∧ Below a.heap.size a w) (hb : Below w.heap.size w w') :
    w'.rangeAt g1 0 (l8 n f1) ∧ w'.there gz 0 m ∧ Below a.heap.size a w' :=
  ⟨range_below h.1 hb, there_below h.2.1 hb, below_step h.2.2 hb⟩
theorem keep1_store {w a : World} {g1 gz n m : Nat} {f1 : Nat → Int} (hne : g1 ≠ gz) (hg : a.heap.size ≤ gz) {vs : List Value} (h : w.rangeAt g1 0 (l8 n f1) ∧ w.there gz 0 m ∧ Below a.heap.size a w) :
    (w.setCells gz 0 vs).rangeAt g1 0 (l8 n f1) ∧ (w.setCells gz 0 vs).there gz 0 m ∧ Below a.heap.size a (w.setCells gz 0 vs) :=
  ⟨World.rangeAt_setCells_apart h.1 _ _ _ (Or.inl hne), World.there_setCells h.2.1 _ _ _, below_setCells hg _ _ h.2.2⟩
theorem keep2 {w w' a : World} {g1 g2 gz n m : Nat} {f1 f2 : Nat → Int} (h : w.rangeAt g1 0 (l8 n f1) ∧ w.rangeAt g2 0 (l8 n f2) ∧ w.there gz 0 m ∧ Below a.heap.size a w) (hb : Below w.heap.size w w') :
    w'.rangeAt g1 0 (l8 n f1) ∧ w'.rangeAt g2 0 (l8 n f2) ∧ w'.there gz 0 m ∧ Below a.heap.size a w' :=
  ⟨range_below h.1 hb, range_below h.2.1 hb, there_below h.2.2.1 hb, below_step h.2.2.2 hb⟩
theorem keep2_store {w a : World} {g1 g2 gz n m : Nat} {f1 f2 : Nat → Int} (hne : g1 ≠ gz) (hne2 : g2 ≠ gz) (hg : a.heap.size ≤ gz) {vs : List Value}
    (h : w.rangeAt g1 0 (l8 n f1) ∧ w.rangeAt g2 0 (l8 n f2) ∧ w.there gz 0 m ∧ Below a.heap.size a w) :
    (w.setCells gz 0 vs).rangeAt g1 0 (l8 n f1) ∧ (w.setCells gz 0 vs).rangeAt g2 0 (l8 n f2) ∧ (w.setCells gz 0 vs).there gz 0 m ∧ Below a.heap.size a (w.setCells gz 0 vs) :=
  ⟨World.rangeAt_setCells_apart h.1 _ _ _ (Or.inl hne), World.rangeAt_setCells_apart h.2.1 _ _ _ (Or.inl hne2), World.there_setCells h.2.2.1 _ _ _, below_setCells hg _ _ h.2.2.2⟩
section
variable {P : Program} {ops : Array Oper} {Q : Exit → Act → World → Prop} {md : Region.Mode} {S : World → Prop} {fuel : Nat} {listed : Array Bool} {a : Act} {w : World}

theorem wp_callF {o : Oper} {K : Act → World → Prop} (k : Nat) (as : List Operand) (ts : Array TypeId) (hop : o.op = .call { callee := .value (.func k), args := as.toArray, argTypes := ts }) (vs : List Value) (hvs : as.map a.eval = vs)
    (hk : ∀ args w, (callFunc k args).run P w = .ok (.enter k args) w)
    (hc : Calls P k vs.toArray w fun e w' => ∃ u, e = .returned u ∧ K (a.put o.dst u) w') : o.wp P a w K Q := by
  unfold Oper.wp execOp
  subst hvs
  simp only [hop, resolve, invoke, Sem.run_bind, Sem.run_pure, Result.andThen_ok]
  simp [Act.eval, Sem.run_bind, Oper.upon, Deferred.ofValue, hk]
  refine Calls.mono hc fun e w2 h => ?_
  obtain ⟨u, rfl, h2⟩ := h
  exact h2
/-- The one operation that may come up is run. -/
theorem anyH_step {i : Nat} {o : Oper} (hr : Region.ready md ops listed = [i]) (ho : ops[i]? = some o) (hw : Region.wanted o (yielded ops a.tmps) = true)
    (h : o.wp P a w (fun a' w' => S w' ∧ wpAnyH P md ops Q S fuel (listed.setIfInBounds i true) a' w') Q) : wpAnyH P md ops Q S (fuel + 1) listed a w :=
  wpAnyH_all hr (by simp) fun j hj => by
    rw [List.mem_singleton] at hj
    subst hj
    unfold wpOp
    simp only [ho, hw, if_true]
    exact .inl h
/-- A call is the one operation that may come up. -/
theorem anyH_call {i : Nat} {o : Oper} (hr : Region.ready md ops listed = [i]) (ho : ops[i]? = some o) (hw : Region.wanted o (yielded ops a.tmps) = true)
    (k : Nat) (as : List Operand) (ts : Array TypeId) (hop : o.op = .call { callee := .value (.func k), args := as.toArray, argTypes := ts }) (vs : List Value) (hvs : as.map a.eval = vs)
    (hk : ∀ args w, (callFunc k args).run P w = .ok (.enter k args) w)
    (hc : Calls P k vs.toArray w fun e w' => ∃ u, e = .returned u ∧ S w' ∧ wpAnyH P md ops Q S fuel (listed.setIfInBounds i true) (a.put o.dst u) w') : wpAnyH P md ops Q S (fuel + 1) listed a w :=
  anyH_step hr ho hw (wp_callF k as ts hop vs hvs hk hc)
/-- A polynomial that S holds is read first. -/
theorem anyH_load {i : Nat} {o : Oper} (hi : ops[i]? = some o) (hs : Region.noSelect ops = true) (hf : Region.free md ops listed i = true) (hr : (Region.ready md ops listed).contains i = true)
    (hw : Region.wanted o (yielded ops a.tmps) = true) (ty : TypeId) (x : Operand) (ho : o.op = .load ty x) (g n e : Nat) (f : Nat → Int) (hx : a.eval x = .pointer (some ⟨g, 0, none⟩)) (hc : ∀ w, S w → w.rangeAt g 0 (l8 n f))
    (hu : P.underlying ty = some (.array n e)) (hz : (P.info? ty).map (·.size) = some n) (hS : S w)
    (h : wpAnyH P md ops (NoPanic Q) S fuel (listed.setIfInBounds i true) (a.put o.dst (.agg (u8s n f))) w) : wpAnyH P md ops (NoPanic Q) S (fuel + 1) listed a w :=
  wpAnyH_take hi hs hf hr (fun _ _ _ h => False.elim h) (yieldsIf_load_mid (cs := l8 n f) hw ty x ho g 0 hx _ hc hu rfl (by rw [l8_len]; exact hz)) hS h
/-- An operation without a look at the world comes first. -/
theorem anyH_val {i : Nat} {o : Oper} (v : Value) (hi : ops[i]? = some o) (hs : Region.noSelect ops = true) (hf : Region.free md ops listed i = true) (hr : (Region.ready md ops listed).contains i = true)
    (hw : Region.wanted o (yielded ops a.tmps) = true) (hv : ∀ w, (execOp a.eval o).run P w = .ok (.value v) w) (hS : S w)
    (h : wpAnyH P md ops (NoPanic Q) S fuel (listed.setIfInBounds i true) (a.put o.dst v) w) : wpAnyH P md ops (NoPanic Q) S (fuel + 1) listed a w :=
  wpAnyH_take hi hs hf hr (fun _ _ _ h => False.elim h) (Or.inl ⟨hw, fun w _ => hv w⟩) hS h
/-- A part of a call's results. -/
theorem anyH_extract {i : Nat} {o : Oper} (hi : ops[i]? = some o) (hs : Region.noSelect ops = true) (hf : Region.free md ops listed i = true) (hr : (Region.ready md ops listed).contains i = true)
    (hw : Region.wanted o (yielded ops a.tmps) = true) (x : Operand) (n : Nat) (ho : o.op = .extract x n) (vs : Array Value) (hx : a.eval x = .tuple vs) (v : Value) (hv : vs[n]? = some v) (hS : S w)
    (h : wpAnyH P md ops (NoPanic Q) S fuel (listed.setIfInBounds i true) (a.put o.dst v) w) : wpAnyH P md ops (NoPanic Q) S (fuel + 1) listed a w :=
  anyH_val v hi hs hf hr hw (fun w => by unfold execOp; simp [ho, hx, hv, Instr.extract]) hS h
/-- An array is stored: the one operation that may come up. -/
theorem anyH_store {i : Nat} {o : Oper} (hr : Region.ready md ops listed = [i]) (ho : ops[i]? = some o) (hw : Region.wanted o (yielded ops a.tmps) = true)
    (t : TypeId) (x y : Operand) (hop : o.op = .store t x y) (g n : Nat) (hx : a.eval x = .pointer (some ⟨g, 0, none⟩)) (f : Nat → Int) (hy : a.eval y = .agg (u8s n f)) (ht : w.there g 0 n) (hz : (P.info? t).map (·.size) = some n)
    (h : S (w.setCells g 0 (l8 n f)) ∧ wpAnyH P md ops Q S fuel (listed.setIfInBounds i true) (a.put o.dst undef) (w.setCells g 0 (l8 n f))) : wpAnyH P md ops Q S (fuel + 1) listed a w :=
  anyH_step hr ho hw (wp_store_mid t x y hop g 0 (u8s n f) hx hy (by rw [u8s_size]; exact ht) (by rw [u8s_size]; exact hz) (u8s_oneCell n f) h)
end
section
variable {P : Program} {fn : Func} {tmps : Array Value} {w : World}
theorem res_ct_mid {p u : Tmp} {ty n e : TypeId} (h : fn.results = #[.cell p ty, .tmp u]) {g : Nat} {cs : List Value} (hp : tmps.getD p undef = .pointer (some ⟨g, 0, none⟩)) (hc : w.rangeAt g 0 cs)
    (hu : P.underlying ty = some (.array n e)) (hi : (P.info? ty).map (·.size) = some cs.length) {x : Value} (hx : tmps.getD u undef = x) : (results fn tmps).run P w = .ok (.tuple #[.agg cs.toArray, x]) w := by
  have hp' : tmps[p]?.getD undef = .pointer (some ⟨g, 0, none⟩) := by simpa using hp
  have hx' : tmps[u]?.getD undef = x := by simpa using hx
  simp [results, h, hp', hx', asAddr, run_loadVar_mid w g 0 ty cs _ hc hu rfl hi]
end
end Go.Proofs.Ythkkicanockhgaa

/- Several texts in one: Tail, Inv, Inv2, Inv3, Inv4, Inv5, Inv6, Two. -/
import Derived.Test.YtojkngdabejjdaaBase
import Derived.Deep.RegionHeld3
import Derived.Deep.DeepCutAuto
set_option linter.unusedVariables false
set_option linter.unusedSimpArgs false
/- Laws for a region that draws its order: blocks that the region loads, beside calls that leave them as they are. -/
namespace Go.Proofs.Ytojkngdabejjdaa
open Go.RowKit

/-- The cells of n bytes, as a list. -/
def l8 (n : Nat) (f : Nat → Int) : List Value := (List.range n).map fun i => .int .u8 (f i)
theorem l8_arr (n : Nat) (f : Nat → Int) : (l8 n f).toArray = u8s n f := rfl
theorem l8_len (n : Nat) (f : Nat → Int) : (l8 n f).length = n := by simp [l8]
theorem l8_one (n : Nat) (f : Nat → Int) : ∀ v ∈ l8 n f, v.oneCell' = true := by
  intro v hv
  rw [l8, List.mem_map] at hv
  obtain ⟨i, _, rfl⟩ := hv
  rfl
theorem Blk.range {w : World} {g n : Nat} {f : Nat → Int} {t : TypeId} (h : Blk w g (u8s n f) t) : w.rangeAt g 0 (l8 n f) := fun j v hv => by
  rw [Nat.zero_add, h.cell]
  rw [← hv, ← l8_arr, List.getElem?_toArray]
theorem Blk.there {w : World} {g n : Nat} {f : Nat → Int} {t : TypeId} (h : Blk w g (u8s n f) t) : w.there g 0 n := fun j hj => by
  rw [Nat.zero_add]
  exact ⟨by rw [h.cell, u8s_get f hj]; rfl, h.free j⟩
theorem range_below {w w' : World} {g o : Nat} {cs : List Value} (h : w.rangeAt g o cs) (hb : Below w.heap.size w w') : w'.rangeAt g o cs := fun j v hv => by
  have := h j v hv
  rw [hb.cell (block_lt_of_cell this)]; exact this
theorem there_below {w w' : World} {g o n : Nat} (h : w.there g o n) (hb : Below w.heap.size w w') : w'.there g o n := fun j hj => by
  obtain ⟨h1, h2⟩ := h j hj
  obtain ⟨u, hu⟩ := Option.isSome_iff_exists.1 h1
  have hlt := block_lt_of_cell hu
  exact ⟨by rw [hb.cell hlt]; exact h1, by rw [hb.frozen hlt]; exact h2⟩
theorem below_setCells {B g : Nat} (hg : B ≤ g) : ∀ (vs : List Value) (o : Nat) {a w : World}, Below B a w → Below B a (w.setCells g o vs)
  | [], _, _, _, h => h
  | _ :: r, o, _, _, h => below_setCells hg r (o + 1) (h.setCell hg _)
/-- The condition of a region with one polynomial and the cell of a result; with two. -/
theorem keep1 {w w' a : World} {g1 gz n m : Nat} {f1 : Nat → Int} (h : w.rangeAt g1 0 (l8 n f1) ∧ w.there gz 0 m ∧ Below a.heap.size a w) (hb : Below w.heap.size w w') :
    w'.rangeAt g1 0 (l8 n f1) ∧ w'.there gz 0 m ∧ Below a.heap.size a w' :=
  ⟨range_below h.1 hb, there_below h.2.1 hb, below_step h.2.2 hb⟩
theorem keep1_store {w a : World} {g1 gz n m : Nat} {f1 : Nat → Int} (hne : g1 ≠ gz) (hg : a.heap.size ≤ gz) {vs : List Value} (h : w.rangeAt g1 0 (l8 n f1) ∧ w.there gz 0 m ∧ Below a.heap.size a w) :
    (w.setCells gz 0 vs).rangeAt g1 0 (l8 n f1) ∧ (w.setCells gz 0 vs).there gz 0 m ∧ Below a.heap.size a (w.setCells gz 0 vs) :=
  ⟨World.rangeAt_setCells_apart h.1 _ _ _ (Or.inl hne), World.there_setCells h.2.1 _ _ _, below_setCells hg _ _ h.2.2⟩
theorem keep2 {w w' a : World} {g1 g2 gz n m : Nat} {f1 f2 : Nat → Int} (h : w.rangeAt g1 0 (l8 n f1) ∧ w.rangeAt g2 0 (l8 n f2) ∧ w.there gz 0 m ∧ Below a.heap.size a w) (hb : Below w.heap.size w w') :
    w'.rangeAt g1 0 (l8 n f1) ∧ w'.rangeAt g2 0 (l8 n f2) ∧ w'.there gz 0 m ∧ Below a.heap.size a w' :=
  ⟨range_below h.1 hb, range_below h.2.1 hb, there_below h.2.2.1 hb, below_step h.2.2.2 hb⟩
theorem keep2_store {w a : World} {g1 g2 gz n m : Nat} {f1 f2 : Nat → Int} (hne : g1 ≠ gz) (hne2 : g2 ≠ gz) (hg : a.heap.size ≤ gz) {vs : List Value}
    (h : w.rangeAt g1 0 (l8 n f1) ∧ w.rangeAt g2 0 (l8 n f2) ∧ w.there gz 0 m ∧ Below a.heap.size a w) :
    (w.setCells gz 0 vs).rangeAt g1 0 (l8 n f1) ∧ (w.setCells gz 0 vs).rangeAt g2 0 (l8 n f2) ∧ (w.setCells gz 0 vs).there gz 0 m ∧ Below a.heap.size a (w.setCells gz 0 vs) :=
  ⟨World.rangeAt_setCells_apart h.1 _ _ _ (Or.inl hne), World.rangeAt_setCells_apart h.2.1 _ _ _ (Or.inl hne2), World.there_setCells h.2.2.1 _ _ _, below_setCells hg _ _ h.2.2.2⟩
section
variable {P : Program} {ops : Array Oper} {Q : Exit → Act → World → Prop} {md : Region.Mode} {S : World → Prop} {fuel : Nat} {listed : Array Bool} {a : Act} {w : World}

theorem wp_callF {o : Oper} {K : Act → World → Prop} (k : Nat) (as : List Operand) (ts : Array TypeId) (hop : o.op = .call { callee := .value (.func k), args := as.toArray, argTypes := ts }) (vs : List Value) (hvs : as.map a.eval = vs)
    (hk : ∀ args w, (callFunc k args).run P w = .ok (.enter k args) w)
    (hc : Calls P k vs.toArray w fun e w' => ∃ u, e = .returned u ∧ K (a.put o.dst u) w') : o.wp P a w K Q := by
  unfold Oper.wp execOp
  subst hvs
  simp only [hop, resolve, invoke, Sem.run_bind, Sem.run_pure, Result.andThen_ok]
  simp [Act.eval, Sem.run_bind, Oper.upon, Deferred.ofValue, hk]
  refine Calls.mono hc fun e w2 h => ?_
  obtain ⟨u, rfl, h2⟩ := h
  exact h2
/-- The one operation that may come up is run. -/
theorem anyH_step {i : Nat} {o : Oper} (hr : Region.ready md ops listed = [i]) (ho : ops[i]? = some o) (hw : Region.wanted o (yielded ops a.tmps) = true)
    (h : o.wp P a w (fun a' w' => S w' ∧ wpAnyH P md ops Q S fuel (listed.setIfInBounds i true) a' w') Q) : wpAnyH P md ops Q S (fuel + 1) listed a w :=
  wpAnyH_all hr (by simp) fun j hj => by
    rw [List.mem_singleton] at hj
    subst hj
    unfold wpOp
    simp only [ho, hw, if_true]
    exact .inl h
/-- A call is the one operation that may come up. -/
theorem anyH_call {i : Nat} {o : Oper} (hr : Region.ready md ops listed = [i]) (ho : ops[i]? = some o) (hw : Region.wanted o (yielded ops a.tmps) = true)
    (k : Nat) (as : List Operand) (ts : Array TypeId) (hop : o.op = .call { callee := .value (.func k), args := as.toArray, argTypes := ts }) (vs : List Value) (hvs : as.map a.eval = vs)
    (hk : ∀ args w, (callFunc k args).run P w = .ok (.enter k args) w)
    (hc : Calls P k vs.toArray w fun e w' => ∃ u, e = .returned u ∧ S w' ∧ wpAnyH P md ops Q S fuel (listed.setIfInBounds i true) (a.put o.dst u) w') : wpAnyH P md ops Q S (fuel + 1) listed a w :=
  anyH_step hr ho hw (wp_callF k as ts hop vs hvs hk hc)
/-- A polynomial that S holds is read first. -/
theorem anyH_load {i : Nat} {o : Oper} (hi : ops[i]? = some o) (hs : Region.noSelect ops = true) (hf : Region.free md ops listed i = true) (hr : (Region.ready md ops listed).contains i = true)
    (hw : Region.wanted o (yielded ops a.tmps) = true) (ty : TypeId) (x : Operand) (ho : o.op = .load ty x) (g n e : Nat) (f : Nat → Int) (hx : a.eval x = .pointer (some ⟨g, 0, none⟩)) (hc : ∀ w, S w → w.rangeAt g 0 (l8 n f))
    (hu : P.underlying ty = some (.array n e)) (hz : (P.info? ty).map (·.size) = some n) (hS : S w)
    (h : wpAnyH P md ops (NoPanic Q) S fuel (listed.setIfInBounds i true) (a.put o.dst (.agg (u8s n f))) w) : wpAnyH P md ops (NoPanic Q) S (fuel + 1) listed a w :=
  wpAnyH_take hi hs hf hr (fun _ _ _ h => False.elim h) (yieldsIf_load_mid (cs := l8 n f) hw ty x ho g 0 hx _ hc hu rfl (by rw [l8_len]; exact hz)) hS h
/-- An operation without a look at the world comes first. -/
theorem anyH_val {i : Nat} {o : Oper} (v : Value) (hi : ops[i]? = some o) (hs : Region.noSelect ops = true) (hf : Region.free md ops listed i = true) (hr : (Region.ready md ops listed).contains i = true)
    (hw : Region.wanted o (yielded ops a.tmps) = true) (hv : ∀ w, (execOp a.eval o).run P w = .ok (.value v) w) (hS : S w)
    (h : wpAnyH P md ops (NoPanic Q) S fuel (listed.setIfInBounds i true) (a.put o.dst v) w) : wpAnyH P md ops (NoPanic Q) S (fuel + 1) listed a w :=
  wpAnyH_take hi hs hf hr (fun _ _ _ h => False.elim h) (Or.inl ⟨hw, fun w _ => hv w⟩) hS h
/-- A part of a call's results. -/
theorem anyH_extract {i : Nat} {o : Oper} (hi : ops[i]? = some o) (hs : Region.noSelect ops = true) (hf : Region.free md ops listed i = true) (hr : (Region.ready md ops listed).contains i = true)
    (hw : Region.wanted o (yielded ops a.tmps) = true) (x : Operand) (n : Nat) (ho : o.op = .extract x n) (vs : Array Value) (hx : a.eval x = .tuple vs) (v : Value) (hv : vs[n]? = some v) (hS : S w)
    (h : wpAnyH P md ops (NoPanic Q) S fuel (listed.setIfInBounds i true) (a.put o.dst v) w) : wpAnyH P md ops (NoPanic Q) S (fuel + 1) listed a w :=
  anyH_val v hi hs hf hr hw (fun w => by unfold execOp; simp [ho, hx, hv, Instr.extract]) hS h
/-- An array is stored: the one operation that may come up. -/
theorem anyH_store {i : Nat} {o : Oper} (hr : Region.ready md ops listed = [i]) (ho : ops[i]? = some o) (hw : Region.wanted o (yielded ops a.tmps) = true)
    (t : TypeId) (x y : Operand) (hop : o.op = .store t x y) (g n : Nat) (hx : a.eval x = .pointer (some ⟨g, 0, none⟩)) (f : Nat → Int) (hy : a.eval y = .agg (u8s n f)) (ht : w.there g 0 n) (hz : (P.info? t).map (·.size) = some n)
    (h : S (w.setCells g 0 (l8 n f)) ∧ wpAnyH P md ops Q S fuel (listed.setIfInBounds i true) (a.put o.dst undef) (w.setCells g 0 (l8 n f))) : wpAnyH P md ops Q S (fuel + 1) listed a w :=
  anyH_step hr ho hw (wp_store_mid t x y hop g 0 (u8s n f) hx hy (by rw [u8s_size]; exact ht) (by rw [u8s_size]; exact hz) (u8s_oneCell n f) h)
end
section
variable {P : Program} {fn : Func} {tmps : Array Value} {w : World}
theorem res_ct_mid {p u : Tmp} {ty n e : TypeId} (h : fn.results = #[.cell p ty, .tmp u]) {g : Nat} {cs : List Value} (hp : tmps.getD p undef = .pointer (some ⟨g, 0, none⟩)) (hc : w.rangeAt g 0 cs)
    (hu : P.underlying ty = some (.array n e)) (hi : (P.info? ty).map (·.size) = some cs.length) {x : Value} (hx : tmps.getD u undef = x) : (results fn tmps).run P w = .ok (.tuple #[.agg cs.toArray, x]) w := by
  have hp' : tmps[p]?.getD undef = .pointer (some ⟨g, 0, none⟩) := by simpa using hp
  have hx' : tmps[u]?.getD undef = x := by simpa using hx
  simp [results, h, hp', hx', asAddr, run_loadVar_mid w g 0 ty cs _ hc hu rfl hi]
end
end Go.Proofs.Ytojkngdabejjdaa

/- A region that draws its order, by an invariant over the set of operations that have come up: one proof for each operation, whatever the order. No program in sight. -/
namespace Go.Proofs.Ytojkngdabejjdaa
open Go.RowKit

/-- How many have not come up. -/
def unl : List Bool → Nat
  | [] => 0
  | b :: l => (if b then 0 else 1) + unl l
theorem unl_set : ∀ (l : List Bool) (i : Nat), l[i]? = some false → unl (l.set i true) + 1 = unl l
  | [], i, h => by simp at h
  | b :: l, 0, h => by
    have : b = false := by simpa using h
    subst this
    simp [unl]; omega
  | b :: l, i + 1, h => by
    have := unl_set l i (by simpa using h)
    simp only [List.set_cons_succ, unl]; omega
theorem unl_len : ∀ (n : Nat), unl (List.replicate n false) = n
  | 0 => rfl
  | n + 1 => by rw [List.replicate_succ]; simp [unl, unl_len n]; omega

/-- Each operation waits for earlier ones alone. -/
def fwdB (ops : List Oper) : Bool := ops.zipIdx.all fun x => x.1.after.all fun e => !Region.binds .any e || decide (e.on < x.2)
theorem fwdB_spec {ops : List Oper} (h : fwdB ops = true) {i : Nat} {o : Oper} (ho : ops[i]? = some o) : ∀ e ∈ o.after, Region.binds .any e = true → e.on < i := by
  intro e he hb
  have h1 := List.all_eq_true.1 h (o, i) (List.mem_zipIdx_iff_getElem?.2 ho)
  have h2 := Array.all_eq_true_iff_forall_mem.1 h1 e he
  simpa [hb] using h2

section
variable {P : Program} {Q : Exit → Act → World → Prop}

theorem getD_some {l : List Bool} {i : Nat} {d : Bool} : l.toArray.getD i d = (l[i]?).getD d := by
  simp [Array.getD_eq_getD_getElem?]
theorem ready_step {ops : List Oper} {ls : List Bool} (hl : ls.length = ops.length) {i : Nat} (h : i ∈ Region.ready .any ops.toArray ls.toArray) :
    ls[i]? = some false ∧ ∃ o, ops[i]? = some o ∧ ∀ e ∈ o.after, Region.binds .any e = true → ls[e.on]? = some true := by
  obtain ⟨h1, o, h2, h3⟩ := mem_ready.1 h
  rw [getD_some] at h1
  refine ⟨?_, o, by simpa using h2, fun e he hb => ?_⟩
  · cases hq : ls[i]? with
    | none => rw [hq] at h1; cases h1
    | some b => rw [hq] at h1; simp at h1; rw [h1]
  · have h4 := h3 e he hb
    rw [getD_some] at h4
    cases hq : ls[e.on]? with
    | none => rw [hq] at h4; cases h4
    | some b => rw [hq] at h4; simp at h4; rw [h4]
theorem ready_nil {ops : List Oper} (hf : fwdB ops = true) {ls : List Bool} (hl : ls.length = ops.length) (h : Region.ready .any ops.toArray ls.toArray = []) : ∀ i, i < ops.length → ls[i]? = some true := by
  intro i
  induction i using Nat.strongRecOn with
  | _ i ih =>
    intro hi
    refine Classical.byContradiction fun hn => ?_
    have hb : ls[i]? = some false := by
      rw [List.getElem?_eq_getElem (by omega)] at hn ⊢
      cases hq : ls[i] with
      | false => rfl
      | true => rw [hq] at hn; exact absurd rfl hn
    have : i ∈ Region.ready .any ops.toArray ls.toArray := by
      refine mem_ready.2 ⟨by rw [getD_some, hb]; rfl, ops[i], by simp [hi], fun e he hbd => ?_⟩
      have hlt := fwdB_spec hf (List.getElem?_eq_getElem hi) e he hbd
      rw [getD_some, ih e.on hlt (by omega)]; rfl
    rw [h] at this
    cases this

/-- Whatever order is picked, by an invariant. -/
theorem wpAny_inv {ops : List Oper} (hf : fwdB ops = true) (Inv : List Bool → Act → World → Prop)
    (hstep : ∀ i o, ops[i]? = some o → ∀ ls a w, ls.length = ops.length → ls[i]? = some false → (∀ e ∈ o.after, Region.binds .any e = true → ls[e.on]? = some true) → Inv ls a w →
      wpOp P ops.toArray Q i (Inv (ls.set i true)) a w)
    (hend : ∀ ls a w, ls.length = ops.length → (∀ i, i < ops.length → ls[i]? = some true) → Inv ls a w → Q .normal a w) :
    ∀ (fuel : Nat) (ls : List Bool) (a : Act) (w : World), ls.length = ops.length → unl ls ≤ fuel → Inv ls a w → wpAny P .any ops.toArray Q fuel ls.toArray a w
  | 0, ls, a, w, hl, hu, h => by
    have hr : Region.ready .any ops.toArray ls.toArray = [] := by
      cases hq : Region.ready .any ops.toArray ls.toArray with
      | nil => rfl
      | cons i r =>
        have h1 := (ready_step hl (i := i) (by rw [hq]; simp)).1
        have := unl_set ls i h1
        omega
    exact ⟨hr, hend ls a w hl (ready_nil hf hl hr) h⟩
  | fuel + 1, ls, a, w, hl, hu, h => by
    refine ⟨fun hr => hend ls a w hl (ready_nil hf hl hr) h, fun i hi => ?_⟩
    obtain ⟨h1, o, h2, h3⟩ := ready_step hl hi
    refine wpOp_mono (fun a' w' h' => ?_) (hstep i o h2 ls a w hl h1 h3 h)
    have hs := unl_set ls i h1
    have := wpAny_inv hf Inv hstep hend fuel (ls.set i true) a' w' (by rw [List.length_set]; exact hl) (by omega) h'
    simpa using this
theorem region_inv {ops : List Oper} {id : Nat} {a : Act} {w : World} (hm : P.follows .mixedOrders = true) (hf : fwdB ops = true) (Inv : List Bool → Act → World → Prop)
    (hstep : ∀ i o, ops[i]? = some o → ∀ ls a w, ls.length = ops.length → ls[i]? = some false → (∀ e ∈ o.after, Region.binds .any e = true → ls[e.on]? = some true) → Inv ls a w →
      wpOp P ops.toArray Q i (Inv (ls.set i true)) a w)
    (hend : ∀ ls a w, ls.length = ops.length → (∀ i, i < ops.length → ls[i]? = some true) → Inv ls a w → Q .normal a w)
    (h0 : Inv (List.replicate ops.length false) a w.drew) : (Code.region id ops.toArray true).wp P Q a w := by
  refine wp_region_any hm ?_
  have := wpAny_inv (P := P) (Q := Q) hf Inv hstep hend ops.length (List.replicate ops.length false) a w.drew (by simp) (by rw [unl_len]; exact Nat.le_refl _) h0
  simpa using this
end
end Go.Proofs.Ytojkngdabejjdaa

/- A region that draws its order: constants, calls, and variables that are laid and written within it. No program in sight. -/
namespace Go.Proofs.Ytojkngdabejjdaa
open Go.RowKit

/-- The state in which the operations of ls have come up, with these values. -/
def putAll : List Oper → List Bool → (Nat → Value) → Nat → Act → Act
  | o :: os, b :: ls, vals, k, a => putAll os ls vals (k + 1) (if b then a.put o.dst (vals k) else a)
  | _, _, _, _, a => a
def upd (vals : Nat → Value) (i : Nat) (v : Value) : Nat → Value := fun j => if j = i then v else vals j
/-- No two write the same slot. -/
def distB : List Oper → Bool
  | [] => true
  | o :: os => (match o.dst with | none => true | some d => os.all fun o' => o'.dst != some d) && distB os
theorem distB_cons {o : Oper} {os : List Oper} (h : distB (o :: os) = true) : (∀ d, o.dst = some d → ∀ o' ∈ os, o'.dst ≠ some d) ∧ distB os = true := by
  unfold distB at h
  rw [Bool.and_eq_true] at h
  refine ⟨fun d hd o' ho => ?_, h.2⟩
  have h1 := h.1
  rw [hd] at h1
  have := List.all_eq_true.1 h1 o' ho
  simpa using this
theorem putAll_congr {vals vals' : Nat → Value} : ∀ (os : List Oper) (ls : List Bool) (k : Nat) (a : Act), (∀ j, k ≤ j → vals j = vals' j) → putAll os ls vals k a = putAll os ls vals' k a
  | [], _, _, _, _ => by unfold putAll; rfl
  | _ :: _, [], _, _, _ => by unfold putAll; rfl
  | o :: os, b :: ls, k, a, h => by
    unfold putAll
    rw [h k (Nat.le_refl _)]
    exact putAll_congr os ls (k + 1) _ fun j hj => h j (by omega)
theorem putAll_out {vals : Nat → Value} : ∀ (os : List Oper) (ls : List Bool) (k : Nat) (a : Act) (d : Option Tmp) (v : Value), (∀ x, d = some x → ∀ o ∈ os, o.dst ≠ some x) →
    putAll os ls vals k (a.put d v) = (putAll os ls vals k a).put d v
  | [], _, _, _, _, _, _ => by unfold putAll; rfl
  | _ :: _, [], _, _, _, _, _ => by unfold putAll; rfl
  | o :: os, b :: ls, k, a, d, v, h => by
    unfold putAll
    rw [← putAll_out os ls (k + 1) _ d v fun x hx o' ho' => h x hx o' (by simp [ho'])]
    congr 1
    cases b
    · rfl
    · exact Act.put_comm a v (vals k) fun x hx => h x hx o (by simp)
theorem putAll_set {vals : Nat → Value} (v : Value) : ∀ (os : List Oper) (ls : List Bool) (k : Nat) (a : Act) (i : Nat) (o : Oper), distB os = true → os[i]? = some o → ls[i]? = some false →
    putAll os (ls.set i true) (upd vals (k + i) v) k a = (putAll os ls vals k a).put o.dst v
  | [], _, _, _, i, _, _, h, _ => by simp at h
  | _ :: _, [], _, _, i, _, _, _, h => by simp at h
  | o' :: os, b :: ls, k, a, 0, o, hd, ho, hl => by
    obtain ⟨h1, h2⟩ := distB_cons hd
    have e1 : o' = o := by simpa using ho
    have e2 : b = false := by simpa using hl
    subst e1; subst e2
    rw [List.set_cons_zero]
    unfold putAll
    rw [if_pos rfl, if_neg (by simp), show upd vals (k + 0) v k = v by simp [upd]]
    rw [putAll_congr (vals' := vals) os ls (k + 1) _ fun j hj => by unfold upd; rw [if_neg (by omega)]]
    exact putAll_out os ls (k + 1) a o'.dst v h1
  | o' :: os, b :: ls, k, a, i + 1, o, hd, ho, hl => by
    obtain ⟨h1, h2⟩ := distB_cons hd
    rw [List.set_cons_succ]
    unfold putAll
    rw [show upd vals (k + (i + 1)) v k = vals k by unfold upd; rw [if_neg (by omega)]]
    have := putAll_set v (vals := vals) os ls (k + 1) (if b then a.put o'.dst (vals k) else a) i o h2 (by simpa using ho) (by simpa using hl)
    rw [show k + 1 + i = k + (i + 1) by omega] at this
    exact this
theorem put_size (a : Act) (d : Option Tmp) (v : Value) : (a.put d v).tmps.size = a.tmps.size := by
  cases d <;> simp [Act.put]
theorem put_get_ne (a : Act) (d : Option Tmp) (v : Value) (s : Nat) (h : d ≠ some s) : (a.put d v).tmps[s]? = a.tmps[s]? := by
  cases d with
  | none => rfl
  | some x =>
    show (a.tmps.setIfInBounds x v)[s]? = _
    rw [Array.getElem?_setIfInBounds, if_neg (fun e => h (by rw [e]))]
theorem put_get_same (a : Act) (v : Value) (s : Nat) (h : s < a.tmps.size) : (a.put (some s) v).tmps[s]? = some v := by
  show (a.tmps.setIfInBounds s v)[s]? = _
  rw [Array.getElem?_setIfInBounds, if_pos rfl, if_pos h]
theorem putAll_size {vals : Nat → Value} : ∀ (os : List Oper) (ls : List Bool) (k : Nat) (a : Act), (putAll os ls vals k a).tmps.size = a.tmps.size
  | [], _, _, _ => by unfold putAll; rfl
  | _ :: _, [], _, _ => by unfold putAll; rfl
  | o :: os, b :: ls, k, a => by
    unfold putAll
    rw [putAll_size os ls (k + 1)]
    cases b
    · rfl
    · exact put_size a o.dst _
theorem putAll_other {vals : Nat → Value} (s : Nat) : ∀ (os : List Oper) (ls : List Bool) (k : Nat) (a : Act), (∀ o ∈ os, o.dst ≠ some s) → (putAll os ls vals k a).tmps[s]? = a.tmps[s]?
  | [], _, _, _, _ => by unfold putAll; rfl
  | _ :: _, [], _, _, _ => by unfold putAll; rfl
  | o :: os, b :: ls, k, a, h => by
    unfold putAll
    rw [putAll_other s os ls (k + 1) _ fun o' ho' => h o' (by simp [ho'])]
    cases b
    · rfl
    · exact put_get_ne a o.dst _ s (h o (by simp))
theorem putAll_get {vals : Nat → Value} (s : Nat) : ∀ (os : List Oper) (ls : List Bool) (k : Nat) (a : Act) (j : Nat) (o : Oper), distB os = true → os[j]? = some o → o.dst = some s → ls[j]? = some true → s < a.tmps.size →
    (putAll os ls vals k a).tmps[s]? = some (vals (k + j))
  | [], _, _, _, j, _, _, h, _, _, _ => by simp at h
  | _ :: _, [], _, _, j, _, _, _, _, h, _ => by simp at h
  | o' :: os, b :: ls, k, a, 0, o, hd, ho, hs, hl, hz => by
    obtain ⟨h1, h2⟩ := distB_cons hd
    have e1 : o' = o := by simpa using ho
    have e2 : b = true := by simpa using hl
    subst e1; subst e2
    unfold putAll
    rw [putAll_other s os ls (k + 1) _ (h1 s hs), if_pos rfl, hs]
    exact put_get_same a _ s hz
  | o' :: os, b :: ls, k, a, j + 1, o, hd, ho, hs, hl, hz => by
    obtain ⟨h1, h2⟩ := distB_cons hd
    unfold putAll
    have := putAll_get (vals := vals) s os ls (k + 1) (if b then a.put o'.dst (vals k) else a) j o h2 (by simpa using ho) hs (by simpa using hl) (by cases b <;> simp [put_size, hz])
    rw [show k + 1 + j = k + (j + 1) by omega] at this
    exact this
end Go.Proofs.Ytojkngdabejjdaa

/- A region that draws its order: the rule for constants, calls and results' variables. No program in sight. -/
namespace Go.Proofs.Ytojkngdabejjdaa
open Go.RowKit
section
variable {P : Program} {Q : Exit → Act → World → Prop}

theorem wp_alloc_arr {o : Oper} {a : Act} {w : World} {K : Act → World → Prop} (t : TypeId) (hop : o.op = .alloc t) (cs : Array Value) (hz : (P.info? t).bind (·.zero) = some (.agg cs))
    (h : K (a.put o.dst (.pointer (some ⟨w.heap.size, 0, none⟩))) (w.alloc (.cells cs t))) : o.wp P a w K Q := by
  obtain ⟨i, hi, hz⟩ := Option.bind_eq_some_iff.1 hz
  unfold Oper.wp execOp
  simp [hop, Instr.alloc, zeroValue, typeInfo, hi, hz, newVar, newRow, newObj, Sem.run_bind, Value.cells, Oper.upon]
  exact h
theorem wp_store_arr {o : Oper} {a : Act} {w : World} {K : Act → World → Prop} (t : TypeId) (x y : Operand) (hop : o.op = .store t x y) (g : Nat) (hx : a.eval x = .pointer (some ⟨g, 0, none⟩))
    (cs : Array Value) (hy : a.eval y = .agg cs) (old : Array Value) (T : TypeId) (hb : Blk w g old T) (hs : (P.info? t).map (·.size) = some cs.size) (ho : old.size = cs.size)
    (h1 : cs.all (·.oneCell') = true) (h : K (a.put o.dst undef) (w.setRow g cs)) : o.wp P a w K Q := by
  have hr := run_storeCells_from (P := P) g T cs.toList 0 old w hb (by simp [ho]) (fun v hv => (Array.all_eq_true_iff_forall_mem.1 h1) v (by simpa using hv))
  simp only [List.take_zero, List.nil_append, Array.toArray_toList] at hr
  obtain ⟨i, hi, hsz⟩ := Option.map_eq_some_iff.1 hs
  unfold Oper.wp execOp
  simp only [hop, hx, hy, Instr.storeAt, Instr.sureAddr, storeVar, sizeOf, typeInfo, Value.cells]
  simp [Sem.run_bind, hi, hsz, hr, Oper.upon]
  exact h
theorem eval_tmp {a : Act} {s : Nat} {v : Value} (h : a.tmps[s]? = some v) : a.eval (.tmp s) = v := by
  simp [Act.eval, h]
/-- The invariant: constants C, results' variables laid by operation A k and written by Z k with r k. -/
def LI (P : Program) (ops : List Oper) (a0 : Act) (Base : World → Prop) (base : Nat) (C : Nat → Option Value) (m : Nat) (A Z n : Nat → Nat) (r : Nat → Nat → Int) (T : Nat → TypeId) (ls : List Bool) (a : Act) (w : World) : Prop :=
  ∃ vals, a = putAll ops ls vals 0 a0 ∧ Base w ∧ (∀ j c, C j = some c → ls[j]? = some true → vals j = c) ∧
    (∀ k, k < m → ls[A k]? = some true → ∃ g, vals (A k) = .pointer (some ⟨g, 0, none⟩) ∧ base ≤ g ∧ Blk w g (u8s (n k) (if ls[Z k]? = some true then r k else fun _ => 0)) (T k)) ∧
    (∀ k k', k < m → k' < m → k ≠ k' → ls[A k]? = some true → ls[A k']? = some true → vals (A k) ≠ vals (A k')) ∧
    (∀ k, k < m → ls[Z k]? = some true → ls[A k]? = some true)
theorem wpOp_plain {ops : List Oper} {i : Nat} {o : Oper} {a : Act} {w : World} {K : Act → World → Prop} (ho : ops[i]? = some o) (hg : o.guard = none) (h : o.wp P a w K Q) : wpOp P ops.toArray Q i K a w := by
  unfold wpOp
  have h1 : ops.toArray[i]? = some o := by simpa using ho
  have h2 : Region.wanted o (yielded ops.toArray a.tmps) = true := by simp [Region.wanted, hg]
  simp only [h1, h2, if_true]
  exact .inl h
theorem set_ne {ls : List Bool} {i j : Nat} (h : i ≠ j) : (ls.set i true)[j]? = ls[j]? := by rw [List.getElem?_set, if_neg h]
theorem set_same {ls : List Bool} {i : Nat} {b : Bool} (h : ls[i]? = some b) : (ls.set i true)[i]? = some true := by
  have : i < ls.length := (List.getElem?_eq_some_iff.1 h).1
  rw [List.getElem?_set, if_pos rfl, if_pos this]
theorem upd_ne {vals : Nat → Value} {i j : Nat} {v : Value} (h : j ≠ i) : upd vals i v j = vals j := by unfold upd; rw [if_neg h]
theorem upd_same {vals : Nat → Value} {i : Nat} {v : Value} : upd vals i v i = v := by unfold upd; rw [if_pos rfl]

theorem law_region {ops : List Oper} {id : Nat} {a0 : Act} {w : World} (hm : P.follows .mixedOrders = true) (hf : fwdB ops = true) (hd : distB ops = true)
    (Base : World → Prop) (base : Nat) (hBb : ∀ w w', Base w → Below w.heap.size w w' → Base w') (hBs : ∀ w g cs, Base w → base ≤ g → Base (w.setRow g cs)) (hBd : ∀ w, Base w → base ≤ w.heap.size)
    (C : Nat → Option Value) (m : Nat) (A Z X pA sx n : Nat → Nat) (r : Nat → Nat → Int) (T : Nat → TypeId)
    (hcls : ∀ i o, ops[i]? = some o → (∃ c, C i = some c) ∨ (∃ k, k < m ∧ i = A k) ∨ (∃ k, k < m ∧ i = Z k))
    (hA : ∀ k, k < m → C (A k) = none ∧ C (Z k) = none ∧ ∀ k', k' < m → A k ≠ Z k' ∧ (A k = A k' → k = k') ∧ (Z k = Z k' → k = k'))
    (hAop : ∀ k, k < m → ∃ o, ops[A k]? = some o ∧ o.op = .alloc (T k) ∧ o.dst = some (pA k) ∧ o.guard = none ∧ (P.info? (T k)).bind (·.zero) = some (.agg (u8s (n k) fun _ => 0)) ∧ pA k < a0.tmps.size)
    (hZop : ∀ k, k < m → ∃ o oX, ops[Z k]? = some o ∧ o.op = .store (T k) (.tmp (pA k)) (.tmp (sx k)) ∧ o.guard = none ∧ (∃ e ∈ o.after, Region.binds .any e = true ∧ e.on = A k) ∧ (∃ e ∈ o.after, Region.binds .any e = true ∧ e.on = X k) ∧
      ops[X k]? = some oX ∧ oX.dst = some (sx k) ∧ C (X k) = some (.agg (u8s (n k) (r k))) ∧ sx k < a0.tmps.size ∧ (P.info? (T k)).map (·.size) = some (n k))
    (hC : ∀ i o c, ops[i]? = some o → C i = some c → ∀ a w, Base w → a.tmps.size = a0.tmps.size →
      (∀ j oj cj s, ops[j]? = some oj → oj.dst = some s → C j = some cj → (∃ e ∈ o.after, Region.binds .any e = true ∧ e.on = j) → s < a0.tmps.size → a.tmps[s]? = some cj) →
      (∀ s, (∀ o ∈ ops, o.dst ≠ some s) → a.tmps[s]? = a0.tmps[s]?) → o.guard = none ∧ o.wp P a w (fun a' w' => a' = a.put o.dst c ∧ Below w.heap.size w w') Q)
    (h0 : Base w.drew)
    (hend : ∀ (vals : Nat → Value) w', Base w' → (∀ i c, i < ops.length → C i = some c → vals i = c) → (∀ k, k < m → ∃ g, vals (A k) = .pointer (some ⟨g, 0, none⟩) ∧ base ≤ g ∧ Blk w' g (u8s (n k) (r k)) (T k)) →
      ∀ ls, (∀ i, i < ops.length → ls[i]? = some true) → ls.length = ops.length → Q .normal (putAll ops ls vals 0 a0) w') :
    (Code.region id ops.toArray true).wp P Q a0 w := by
  refine region_inv hm hf (LI P ops a0 Base base C m A Z n r T) ?_ ?_ ?_
  · rintro i o ho ls a w hl hli haft ⟨vals, rfl, hB, hc, hr, hne, hza⟩
    rcases hcls i o ho with ⟨c, hci⟩ | ⟨k, hk, rfl⟩ | ⟨k, hk, rfl⟩
    · obtain ⟨hg, hwp⟩ := hC i o c ho hci (putAll ops ls vals 0 a0) w hB (putAll_size ops ls 0 a0)
        (fun j oj cj s hj hs hcj hex hsz => by
          obtain ⟨e, he, hb, rfl⟩ := hex
          have h1 := haft e he hb
          rw [putAll_get s ops ls 0 a0 e.on oj hd hj hs h1 hsz, Nat.zero_add, hc e.on cj hcj h1])
        (fun s hs => putAll_other s ops ls 0 a0 hs)
      refine wpOp_mono ?_ (wpOp_plain ho hg hwp)
      rintro a' w' ⟨rfl, hb⟩
      have hAi : ∀ k, k < m → A k ≠ i := fun k hk e => by rw [← e, (hA k hk).1] at hci; cases hci
      have hZi : ∀ k, k < m → Z k ≠ i := fun k hk e => by rw [← e, (hA k hk).2.1] at hci; cases hci
      refine ⟨upd vals i c, ?_, hBb _ _ hB hb, fun j cj hcj hj => ?_, fun k hk hj => ?_, fun k k' hk hk' hkk h1 h2 => ?_, fun k hk h1 => ?_⟩
      · have := putAll_set (vals := vals) c ops ls 0 a0 i o hd ho hli
        rw [Nat.zero_add] at this
        exact this.symm
      · by_cases e : j = i
        · subst e; rw [upd_same]; rw [hci] at hcj; exact Option.some.inj hcj
        · rw [upd_ne e]; rw [set_ne (Ne.symm e)] at hj; exact hc j cj hcj hj
      · rw [set_ne (Ne.symm (hAi k hk))] at hj
        obtain ⟨g, h1, h2, h3⟩ := hr k hk hj
        rw [upd_ne (hAi k hk), set_ne (Ne.symm (hZi k hk))]
        exact ⟨g, h1, h2, h3.keep hb⟩
      · rw [set_ne (Ne.symm (hAi k hk))] at h1
        rw [set_ne (Ne.symm (hAi k' hk'))] at h2
        rw [upd_ne (hAi k hk), upd_ne (hAi k' hk')]
        exact hne k k' hk hk' hkk h1 h2
      · rw [set_ne (Ne.symm (hZi k hk))] at h1
        rw [set_ne (Ne.symm (hAi k hk))]
        exact hza k hk h1
    · obtain ⟨o', ho', hop, hdst, hg, hz, hsz⟩ := hAop k hk
      obtain rfl : o' = o := by rw [ho] at ho'; exact (Option.some.inj ho').symm
      refine wpOp_plain ho hg (wp_alloc_arr (T k) hop _ hz ?_)
      refine ⟨upd vals (A k) (.pointer (some ⟨w.heap.size, 0, none⟩)), ?_, hBb _ _ hB (below_new _ _), fun j cj hcj hj => ?_, fun k' hk' hj => ?_, fun k1 k2 hk1 hk2 hkk h1 h2 => ?_, fun k' hk' h1 => ?_⟩
      · have := putAll_set (vals := vals) (.pointer (some ⟨w.heap.size, 0, none⟩)) ops ls 0 a0 (A k) o' hd ho hli
        rw [Nat.zero_add] at this
        exact this.symm
      · have e : j ≠ A k := fun e => by rw [e, (hA k hk).1] at hcj; cases hcj
        rw [upd_ne e]; rw [set_ne (Ne.symm e)] at hj; exact hc j cj hcj hj
      · have eZ : A k ≠ Z k' := ((hA k hk).2.2 k' hk').1
        by_cases e : k' = k
        · subst e
          have hnz : ¬ ls[Z k']? = some true := fun h => by rw [hza k' hk h] at hli; cases hli
          rw [upd_same, set_ne eZ, if_neg hnz]
          exact ⟨_, rfl, hBd _ hB, Blk.new _ _ _⟩
        · have eA : A k' ≠ A k := fun h => e (((hA k' hk').2.2 k hk).2.1 h)
          rw [set_ne (Ne.symm eA)] at hj
          obtain ⟨g, h1, h2, h3⟩ := hr k' hk' hj
          rw [upd_ne eA, set_ne eZ]
          exact ⟨g, h1, h2, h3.alloc _⟩
      · have key : ∀ k', k' < m → k' ≠ k → (ls.set (A k) true)[A k']? = some true → upd vals (A k) (.pointer (some ⟨w.heap.size, 0, none⟩)) (A k') ≠ .pointer (some ⟨w.heap.size, 0, none⟩) := fun k' hk' e hj => by
          have eA : A k' ≠ A k := fun h => e (((hA k' hk').2.2 k hk).2.1 h)
          rw [set_ne (Ne.symm eA)] at hj
          obtain ⟨g, h1, h2, h3⟩ := hr k' hk' hj
          rw [upd_ne eA, h1]
          intro h
          have := h3.lt
          simp at h
          first | done | omega
        by_cases e1 : k1 = k
        · subst e1
          rw [upd_same]
          exact fun h => key k2 hk2 (Ne.symm hkk) h2 h.symm
        · by_cases e2 : k2 = k
          · subst e2
            have := key k1 hk1 e1 h1
            rw [upd_same]
            exact this
          · have eA1 : A k1 ≠ A k := fun h => e1 (((hA k1 hk1).2.2 k hk).2.1 h)
            have eA2 : A k2 ≠ A k := fun h => e2 (((hA k2 hk2).2.2 k hk).2.1 h)
            rw [set_ne (Ne.symm eA1)] at h1
            rw [set_ne (Ne.symm eA2)] at h2
            rw [upd_ne eA1, upd_ne eA2]
            exact hne k1 k2 hk1 hk2 hkk h1 h2
      · have eZ : A k ≠ Z k' := ((hA k hk).2.2 k' hk').1
        rw [set_ne eZ] at h1
        have h2 := hza k' hk' h1
        by_cases e : A k = A k'
        · rw [← e]; exact set_same hli
        · rw [set_ne e]; exact h2
    · obtain ⟨o', oX, ho', hop, hg, hexA, hexX, hoX, hdX, hCX, hsz, hinfo⟩ := hZop k hk
      obtain rfl : o' = o := by rw [ho] at ho'; exact (Option.some.inj ho').symm
      obtain ⟨oA, hoA, _, hdA, _, _, hszA⟩ := hAop k hk
      obtain ⟨e, he, hb, heA⟩ := hexA
      have hlA := haft e he hb
      rw [heA] at hlA
      obtain ⟨e', he', hb', heX⟩ := hexX
      have hlX := haft e' he' hb'
      rw [heX] at hlX
      obtain ⟨g, hv, hge, hB2⟩ := hr k hk hlA
      have hnz : ¬ ls[Z k]? = some true := fun h => by rw [hli] at h; cases h
      rw [if_neg hnz] at hB2
      have hx := eval_tmp (putAll_get (vals := vals) (pA k) ops ls 0 a0 (A k) oA hd hoA hdA hlA hszA)
      rw [Nat.zero_add, hv] at hx
      have hy := eval_tmp (putAll_get (vals := vals) (sx k) ops ls 0 a0 (X k) oX hd hoX hdX hlX hsz)
      rw [Nat.zero_add, hc _ _ hCX hlX] at hy
      refine wpOp_plain ho hg (wp_store_arr (T k) _ _ hop g hx _ hy _ (T k) hB2 (by rw [u8s_size]; exact hinfo) (by rw [u8s_size, u8s_size]) (u8s_oneCell _ _) ?_)
      refine ⟨upd vals (Z k) undef, ?_, hBs _ _ _ hB hge, fun j cj hcj hj => ?_, fun k' hk' hj => ?_, fun k1 k2 hk1 hk2 hkk h1 h2 => ?_, fun k' hk' h1 => ?_⟩
      · have := putAll_set (vals := vals) undef ops ls 0 a0 (Z k) o' hd ho hli
        rw [Nat.zero_add] at this
        exact this.symm
      · have e1 : j ≠ Z k := fun e1 => by rw [e1, (hA k hk).2.1] at hcj; cases hcj
        rw [upd_ne e1]; rw [set_ne (Ne.symm e1)] at hj; exact hc j cj hcj hj
      · have eZ : A k' ≠ Z k := ((hA k' hk').2.2 k hk).1
        rw [set_ne (Ne.symm eZ)] at hj
        rw [upd_ne eZ]
        by_cases e1 : k' = k
        · subst e1
          refine ⟨g, hv, hge, ?_⟩
          rw [set_same hli, if_pos rfl]
          exact hB2.setRow_same
        · obtain ⟨g', h1, h2, h3⟩ := hr k' hk' hj
          have eZ2 : Z k' ≠ Z k := fun h => e1 (((hA k' hk').2.2 k hk).2.2 h)
          rw [set_ne (Ne.symm eZ2)]
          refine ⟨g', h1, h2, h3.setRow_other fun h => ?_⟩
          subst h
          exact hne k' k hk' hk e1 hj hlA (by rw [h1, hv])
      · have eZ1 : A k1 ≠ Z k := ((hA k1 hk1).2.2 k hk).1
        have eZ2 : A k2 ≠ Z k := ((hA k2 hk2).2.2 k hk).1
        rw [set_ne (Ne.symm eZ1)] at h1
        rw [set_ne (Ne.symm eZ2)] at h2
        rw [upd_ne eZ1, upd_ne eZ2]
        exact hne k1 k2 hk1 hk2 hkk h1 h2
      · have eZ1 : A k' ≠ Z k := ((hA k' hk').2.2 k hk).1
        rw [set_ne (Ne.symm eZ1)]
        by_cases e1 : Z k = Z k'
        · have := ((hA k hk).2.2 k' hk').2.2 e1
          subst this
          exact hlA
        · rw [set_ne e1] at h1
          exact hza k' hk' h1
  · rintro ls a w' hl hall ⟨vals, rfl, hB, hc, hr, _, _⟩
    refine hend vals w' hB (fun i c hi hci => hc i c hci (hall i hi)) (fun k hk => ?_) ls hall hl
    obtain ⟨oA, hoA, _⟩ := hAop k hk
    obtain ⟨oZ, _, hoZ, _⟩ := hZop k hk
    obtain ⟨g, h1, h2, h3⟩ := hr k hk (hall _ (List.getElem?_eq_some_iff.1 hoA).1)
    rw [if_pos (hall _ (List.getElem?_eq_some_iff.1 hoZ).1)] at h3
    exact ⟨g, h1, h2, h3⟩
  · have hno : ∀ j, (List.replicate ops.length false)[j]? ≠ some true := fun j h => by
      rw [List.getElem?_replicate] at h
      split at h <;> cases h
    have hz : putAll ops (List.replicate ops.length false) (fun _ => undef) 0 a0 = a0 := by
      have key : ∀ (os : List Oper) (k : Nat) (a : Act), putAll os (List.replicate os.length false) (fun _ => undef) k a = a := by
        intro os
        induction os with
        | nil => intro k a; unfold putAll; rfl
        | cons o os ih => intro k a; rw [List.length_cons, List.replicate_succ]; unfold putAll; rw [if_neg (by simp)]; exact ih (k + 1) a
      exact key ops 0 a0
    exact ⟨fun _ => undef, hz.symm, h0, fun j c _ h => absurd h (hno j), fun k _ h => absurd h (hno _), fun _ _ _ _ _ h _ => absurd h (hno _), fun k _ h => absurd h (hno _)⟩
/-- A slot that no operation of the region writes. -/
def noDst (ops : List Oper) (s : Nat) : Bool := ops.all fun o => o.dst != some s
theorem noDst_spec {ops : List Oper} {s : Nat} (h : noDst ops s = true) : ∀ o ∈ ops, o.dst ≠ some s := fun o ho => by
  have := List.all_eq_true.1 h o ho
  simpa using this
theorem wp_val' {o : Oper} {a : Act} {w : World} (v : Value) (h : (execOp a.eval o).run P w = .ok (.value v) w) : o.wp P a w (fun a' w' => a' = a.put o.dst v ∧ Below w.heap.size w w') Q := by
  unfold Oper.wp
  rw [h]
  exact ⟨rfl, Below.refl _ _⟩
theorem wp_move {o : Oper} {a : Act} {w : World} (x : Operand) (v : Value) (ho : o.op = .move x) (hx : a.eval x = v) : o.wp P a w (fun a' w' => a' = a.put o.dst v ∧ Below w.heap.size w w') Q :=
  wp_val' v (by unfold execOp; simp [ho, hx])
theorem wp_assign {o : Oper} {a : Act} {w : World} (x : Operand) (v : Value) (ho : o.op = .assign x) (hx : a.eval x = v) : o.wp P a w (fun a' w' => a' = a.put o.dst v ∧ Below w.heap.size w w') Q :=
  wp_val' v (by unfold execOp; simp [ho, hx])
theorem wp_extract {o : Oper} {a : Act} {w : World} (x : Operand) (k : Nat) (vs : Array Value) (v : Value) (ho : o.op = .extract x k) (hx : a.eval x = .tuple vs) (hv : vs[k]? = some v) : o.wp P a w (fun a' w' => a' = a.put o.dst v ∧ Below w.heap.size w w') Q :=
  wp_val' v (by unfold execOp; simp [ho, hx, hv, Instr.extract])
theorem wp_loadB {o : Oper} {a : Act} {w : World} (ty : TypeId) (x : Operand) (ho : o.op = .load ty x) (g : Nat) (hx : a.eval x = .pointer (some ⟨g, 0, none⟩)) (t : TypeId) (cs : Array Value) (hb : Blk w g cs t) (n e : Nat)
    (hu : P.underlying ty = some (.array n e)) (hi : (P.info? ty).map (·.size) = some cs.size) : o.wp P a w (fun a' w' => a' = a.put o.dst (.agg cs) ∧ Below w.heap.size w w') Q :=
  wp_load_row ty x ho g hx t cs _ _ hb hu rfl hi ⟨rfl, Below.refl _ _⟩
theorem wp_callB {o : Oper} {a : Act} {w : World} (k : Nat) (as : List Operand) (ts : Array TypeId) (hop : o.op = .call { callee := .value (.func k), args := as.toArray, argTypes := ts }) (vs : List Value) (hvs : as.map a.eval = vs)
    (hk : ∀ args w, (callFunc k args).run P w = .ok (.enter k args) w) (v : Value) (hc : Calls P k vs.toArray w fun e w' => e = .returned v ∧ Below w.heap.size w w') : o.wp P a w (fun a' w' => a' = a.put o.dst v ∧ Below w.heap.size w w') Q :=
  wp_callF k as ts hop vs hvs hk (hc.mono fun e w' h => ⟨v, h.1, rfl, h.2⟩)
end
end Go.Proofs.Ytojkngdabejjdaa

/- The rule for drawn regions, as a law's walk uses it. No program in sight. -/
namespace Go.Proofs.Ytojkngdabejjdaa
open Go.RowKit
section
variable {P : Program} {Q : Exit → Act → World → Prop}
def noGuard (ops : List Oper) : Bool := ops.all fun o => o.guard.isNone
theorem noGuard_spec {ops : List Oper} (h : noGuard ops = true) {i : Nat} {o : Oper} (ho : ops[i]? = some o) : o.guard = none := by
  have := List.all_eq_true.1 h o (List.mem_of_getElem? ho)
  simpa using this
/-- What a result's variable is: laid by operation A (slot pA), written by Z with what operation X has brought (slot sx). -/
def resB (P : Program) (ops : List Oper) (sz A Z X pA sx n T : Nat) : Bool :=
  (match ops[A]? with | some o => decide (o.dst = some pA) && (match o.op with | .alloc t => t == T | _ => false) | none => false) &&
  (match ops[Z]? with | some o => (match o.op with | .store t (.tmp x) (.tmp y) => t == T && x == pA && y == sx | _ => false) && o.after.toList.any (fun e => Region.binds .any e && e.on == A) && o.after.toList.any (fun e => Region.binds .any e && e.on == X) | none => false) &&
  (match ops[X]? with | some o => decide (o.dst = some sx) | none => false) && decide (pA < sz) && decide (sx < sz) && decide ((P.info? T).map (·.size) = some n)
theorem resB_spec {ops : List Oper} {sz A Z X pA sx n T : Nat} (h : resB P ops sz A Z X pA sx n T = true) :
    (∃ o, ops[A]? = some o ∧ o.op = .alloc T ∧ o.dst = some pA) ∧
    (∃ o oX, ops[Z]? = some o ∧ o.op = .store T (.tmp pA) (.tmp sx) ∧ (∃ e ∈ o.after, Region.binds .any e = true ∧ e.on = A) ∧ (∃ e ∈ o.after, Region.binds .any e = true ∧ e.on = X) ∧ ops[X]? = some oX ∧ oX.dst = some sx) ∧
    pA < sz ∧ sx < sz ∧ (P.info? T).map (·.size) = some n := by
  unfold resB at h
  simp only [Bool.and_eq_true, decide_eq_true_eq] at h
  obtain ⟨⟨⟨⟨⟨h1, h2⟩, h3⟩, h4⟩, h5⟩, h6⟩ := h
  refine ⟨?_, ?_, h4, h5, h6⟩
  · cases hA : ops[A]? with
    | none => rw [hA] at h1; cases h1
    | some o =>
      rw [hA] at h1
      simp only [Bool.and_eq_true, decide_eq_true_eq] at h1
      refine ⟨o, rfl, ?_, h1.1⟩
      have := h1.2
      split at this
      · rename_i t ht; rw [ht]; simp at this; rw [this]
      · cases this
  · cases hZ : ops[Z]? with
    | none => rw [hZ] at h2; cases h2
    | some o =>
      cases hX : ops[X]? with
      | none => rw [hX] at h3; cases h3
      | some oX =>
        rw [hZ] at h2
        rw [hX] at h3
        simp only [Bool.and_eq_true, decide_eq_true_eq] at h2 h3
        refine ⟨o, oX, rfl, ?_, ?_, ?_, rfl, h3⟩
        · have := h2.1.1
          split at this
          · rename_i t x y ht; rw [ht]; simp at this; obtain ⟨⟨e1, e2⟩, e3⟩ := this; rw [e1, e2, e3]
          · cases this
        · have h4 := List.any_eq_true.1 h2.1.2
          obtain ⟨e, he, hh⟩ := h4
          rw [Bool.and_eq_true] at hh
          exact ⟨e, by simpa using he, hh.1, by simpa using hh.2⟩
        · have h4 := List.any_eq_true.1 h2.2
          obtain ⟨e, he, hh⟩ := h4
          rw [Bool.and_eq_true] at hh
          exact ⟨e, by simpa using he, hh.1, by simpa using hh.2⟩

def waits (o : Oper) (j : Nat) : Bool := o.after.toList.any fun e => Region.binds .any e && e.on == j
theorem waits_spec {o : Oper} {j : Nat} (h : waits o j = true) : ∃ e ∈ o.after, Region.binds .any e = true ∧ e.on = j := by
  obtain ⟨e, he, hh⟩ := List.any_eq_true.1 h
  rw [Bool.and_eq_true] at hh
  exact ⟨e, by simpa using he, hh.1, by simpa using hh.2⟩
/-- The rule as a law uses it: results' variables A k, Z k, X k, pA k, sx k, n k, T k told by lists. -/
theorem law_region2 {ops : List Oper} {id : Nat} {a0 : Act} {w : World} (hm : P.follows .mixedOrders = true) (hf : fwdB ops = true) (hd : distB ops = true) (hgd : noGuard ops = true)
    (C : Nat → Option Value) (m : Nat) (A Z X pA sx n : Nat → Nat) (r : Nat → Nat → Int) (T : Nat → TypeId)
    (hcls : ∀ i, i < ops.length → (∃ c, C i = some c) ∨ (∃ k, k < m ∧ i = A k) ∨ (∃ k, k < m ∧ i = Z k))
    (hA : ∀ k, k < m → C (A k) = none ∧ C (Z k) = none ∧ C (X k) = some (.agg (u8s (n k) (r k))) ∧ (P.info? (T k)).bind (·.zero) = some (.agg (u8s (n k) fun _ => 0)))
    (hdis : ∀ k, k < m → ∀ k', k' < m → A k ≠ Z k' ∧ (A k = A k' → k = k') ∧ (Z k = Z k' → k = k'))
    (hres : ∀ k, k < m → resB P ops a0.tmps.size (A k) (Z k) (X k) (pA k) (sx k) (n k) (T k) = true)
    (hC : ∀ i o c, ops[i]? = some o → C i = some c → ∀ a w2, Below w.heap.size w w2 →
      (∀ j oj cj s, ops[j]? = some oj → oj.dst = some s → C j = some cj → waits o j = true → decide (s < a0.tmps.size) = true → a.eval (.tmp s) = cj) →
      (∀ s v, noDst ops s = true → a0.tmps[s]? = some v → a.eval (.tmp s) = v) → o.wp P a w2 (fun a' w' => a' = a.put o.dst c ∧ Below w2.heap.size w2 w') Q)
    (hend : ∀ (vals : Nat → Value) w', Below w.heap.size w w' → (∀ i c, i < ops.length → C i = some c → vals i = c) → (∀ k, k < m → ∃ g, vals (A k) = .pointer (some ⟨g, 0, none⟩) ∧ w.heap.size ≤ g ∧ Blk w' g (u8s (n k) (r k)) (T k)) →
      Q .normal (putAll ops (List.replicate ops.length true) vals 0 a0) w') :
    (Code.region id ops.toArray true).wp P Q a0 w := by
  refine law_region hm hf hd (fun w' => Below w.heap.size w w') w.heap.size (fun _ _ h hb => below_step h hb) (fun _ _ _ h hg => below_setRow h hg _) (fun _ h => h.size) C m A Z X pA sx n r T ?_ ?_ ?_ ?_ ?_ (Below.refl _ _).drew ?_
  · intro i o ho
    exact hcls i (List.getElem?_eq_some_iff.1 ho).1
  · intro k hk
    exact ⟨(hA k hk).1, (hA k hk).2.1, hdis k hk⟩
  · intro k hk
    obtain ⟨⟨o, h1, h2, h3⟩, _, h4, _, _⟩ := resB_spec (hres k hk)
    exact ⟨o, h1, h2, h3, noGuard_spec hgd h1, (hA k hk).2.2.2, h4⟩
  · intro k hk
    obtain ⟨_, ⟨o, oX, h1, h2, h3, h4, h5, h6⟩, _, h7, h8⟩ := resB_spec (hres k hk)
    exact ⟨o, oX, h1, h2, noGuard_spec hgd h1, h3, h4, h5, h6, (hA k hk).2.2.1, h7, h8⟩
  · intro i o c ho hci a w2 hB hsz hrd hpar
    exact ⟨noGuard_spec hgd ho, hC i o c ho hci a w2 hB (fun j oj cj s h1 h2 h3 h4 h5 => eval_tmp (hrd j oj cj s h1 h2 h3 (waits_spec h4) (of_decide_eq_true h5))) (fun s v h1 h2 => eval_tmp ((hpar s (noDst_spec h1)).trans h2))⟩
  · intro vals w' hB hc hr ls hall hl
    have : ls = List.replicate ops.length true := by
      apply List.ext_getElem?
      intro i
      by_cases h : i < ops.length
      · rw [hall i h, List.getElem?_replicate, if_pos h]
      · rw [List.getElem?_eq_none (by omega), List.getElem?_eq_none (by simp; omega)]
    subst this
    exact hend vals w' hB hc hr
end
end Go.Proofs.Ytojkngdabejjdaa

/- A region that draws its order: values told by relations that later memory does not change, and stores into variables laid before it. No program in sight. -/
namespace Go.Proofs.Ytojkngdabejjdaa
open Go.RowKit

/-- What an operation waits for. -/
def pre (ops : List Oper) (i : Nat) : List Nat := match ops[i]? with | some o => (o.after.toList.filter fun e => Region.binds .any e).map (·.on) | none => []
def addAll (S : List Nat) : List Nat → List Nat
  | [] => S
  | x :: xs => addAll (if S.contains x then S else x :: S) xs
/-- What it waits for, also through others. -/
def clos (ops : List Oper) : Nat → List Nat → List Nat
  | 0, S => S
  | f + 1, S => clos ops f (addAll S (S.flatMap (pre ops)))
def Closed (ops : List Oper) (ls : List Bool) : Prop := ∀ (i : Nat) (o : Oper), ops[i]? = some o → ls[i]? = some true → ∀ e ∈ o.after, Region.binds .any e = true → ls[e.on]? = some true
theorem addAll_done {ls : List Bool} : ∀ (xs S : List Nat), (∀ x ∈ S, ls[x]? = some true) → (∀ x ∈ xs, ls[x]? = some true) → ∀ x ∈ addAll S xs, ls[x]? = some true
  | [], _, h, _ => h
  | y :: xs, S, h, h2 => by
    refine addAll_done xs _ (fun x hx => ?_) (fun x hx => h2 x (by simp [hx]))
    split at hx
    · exact h x hx
    · rw [List.mem_cons] at hx
      rcases hx with rfl | hx
      · exact h2 _ (by simp)
      · exact h x hx
theorem clos_done {ops : List Oper} {ls : List Bool} (hc : Closed ops ls) : ∀ (f : Nat) (S : List Nat), (∀ x ∈ S, ls[x]? = some true) → ∀ x ∈ clos ops f S, ls[x]? = some true
  | 0, _, h => h
  | f + 1, S, h => by
    refine clos_done hc f _ (addAll_done _ _ h fun x hx => ?_)
    rw [List.mem_flatMap] at hx
    obtain ⟨i, hi, hx⟩ := hx
    unfold pre at hx
    cases ho : ops[i]? with
    | none => rw [ho] at hx; cases hx
    | some o =>
      rw [ho] at hx
      simp only [List.mem_map, List.mem_filter] at hx
      obtain ⟨e, ⟨he, hb⟩, rfl⟩ := hx
      exact hc i o ho (h i hi) e (by simpa using he) hb
/-- Whatever is not late comes up ahead of each store. -/
def lateB (ops : List Oper) (late : Nat → Bool) (m : Nat) (Z : Nat → Nat) : Bool :=
  (List.range ops.length).all fun i => late i || (List.range m).any (fun k => Z k == i) || (List.range m).all fun k => (clos ops ops.length [Z k]).contains i
theorem lateB_spec {ops : List Oper} {late : Nat → Bool} {m : Nat} {Z : Nat → Nat} (h : lateB ops late m Z = true) {ls : List Bool} (hc : Closed ops ls) {i : Nat} (hi : i < ops.length) (hl : late i = false) (hz : ∀ k, k < m → Z k ≠ i)
    {k : Nat} (hk : k < m) (hd : ls[Z k]? = some true) : ls[i]? = some true := by
  have h1 := List.all_eq_true.1 h i (List.mem_range.2 hi)
  rw [hl, Bool.false_or, Bool.or_eq_true] at h1
  rcases h1 with h1 | h1
  · obtain ⟨q, hq, h2⟩ := List.any_eq_true.1 h1
    exact absurd (by simpa using h2) (hz q (List.mem_range.1 hq))
  · have h2 := List.all_eq_true.1 h1 k (List.mem_range.2 hk)
    exact clos_done hc _ [Z k] (fun x hx => by rw [List.mem_singleton] at hx; rw [hx]; exact hd) i (by simpa using h2)
section
variable {P : Program} {Q : Exit → Act → World → Prop}
/-- A store of operation X's value (slot sx) into the variable that slot p points to. -/
def stoB (P : Program) (ops : List Oper) (sz Z X p sx n T : Nat) : Bool :=
  (match ops[Z]? with | some o => (match o.op with | .store t (.tmp x) (.tmp y) => t == T && x == p && y == sx | _ => false) && o.after.toList.any (fun e => Region.binds .any e && e.on == X) | none => false) &&
  (match ops[X]? with | some o => decide (o.dst = some sx) | none => false) && noDst ops p && decide (sx < sz) && decide ((P.info? T).map (·.size) = some n)
theorem stoB_spec {ops : List Oper} {sz Z X p sx n T : Nat} (h : stoB P ops sz Z X p sx n T = true) :
    (∃ o oX, ops[Z]? = some o ∧ o.op = .store T (.tmp p) (.tmp sx) ∧ (∃ e ∈ o.after, Region.binds .any e = true ∧ e.on = X) ∧ ops[X]? = some oX ∧ oX.dst = some sx) ∧ noDst ops p = true ∧ sx < sz ∧ (P.info? T).map (·.size) = some n := by
  unfold stoB at h
  simp only [Bool.and_eq_true, decide_eq_true_eq] at h
  obtain ⟨⟨⟨⟨h2, h3⟩, h4⟩, h5⟩, h6⟩ := h
  refine ⟨?_, h4, h5, h6⟩
  cases hZ : ops[Z]? with
  | none => rw [hZ] at h2; cases h2
  | some o =>
    cases hX : ops[X]? with
    | none => rw [hX] at h3; cases h3
    | some oX =>
      rw [hZ] at h2
      rw [hX] at h3
      simp only [Bool.and_eq_true, decide_eq_true_eq] at h2 h3
      refine ⟨o, oX, rfl, ?_, ?_, rfl, h3⟩
      · have := h2.1
        split at this
        · rename_i t x y ht; rw [ht]; simp at this; obtain ⟨⟨e1, e2⟩, e3⟩ := this; rw [e1, e2, e3]
        · cases this
      · obtain ⟨e, he, hh⟩ := List.any_eq_true.1 h2.2
        rw [Bool.and_eq_true] at hh
        exact ⟨e, by simpa using he, hh.1, by simpa using hh.2⟩
/-- One operation's law: a value with C. -/
def WpV (P : Program) (o : Oper) (a : Act) (w : World) (C : Value → World → Prop) (Q : Exit → Act → World → Prop) : Prop :=
  o.wp P a w (fun a' w' => ∃ v, a' = a.put o.dst v ∧ C v w' ∧ Below w.heap.size w w') Q

/-- The invariant. -/
def LG (ops : List Oper) (a0 : Act) (ws w0 : World) (B : Nat) (S : World → Prop) (C : Nat → Value → World → Prop) (m : Nat) (Z gz n : Nat → Nat) (r r0 : Nat → Nat → Int) (T : Nat → TypeId) (ls : List Bool) (a : Act) (w : World) : Prop :=
  ∃ vals, a = putAll ops ls vals 0 a0 ∧ (Below B ws w ∧ S w) ∧ Closed ops ls ∧ (∀ j, ls[j]? = some true → (∀ k, k < m → Z k ≠ j) → ∃ w', C j (vals j) w') ∧
    (∀ k, k < m → Blk w (gz k) (u8s (n k) (if ls[Z k]? = some true then r k else r0 k)) (T k)) ∧
    ((∀ k, k < m → ls[Z k]? ≠ some true) → Below w0.heap.size w0 w ∧ ∀ j, ls[j]? = some true → C j (vals j) w)
theorem closed_set {ops : List Oper} {ls : List Bool} {i : Nat} {o : Oper} (ho : ops[i]? = some o) (h : Closed ops ls) (haft : ∀ e ∈ o.after, Region.binds .any e = true → ls[e.on]? = some true) (hli : ls[i]? = some false) : Closed ops (ls.set i true) := by
  have up : ∀ j, ls[j]? = some true → (ls.set i true)[j]? = some true := fun j hj => by
    by_cases e : i = j
    · subst e; exact set_same hli
    · rw [set_ne e]; exact hj
  intro j o' ho' hj e he hb
  by_cases ej : i = j
  · subst ej
    rw [ho] at ho'
    obtain rfl := Option.some.inj ho'
    exact up _ (haft e he hb)
  · rw [set_ne ej] at hj
    exact up _ (h j o' ho' hj e he hb)

theorem gen_region {ops : List Oper} {id : Nat} {a0 : Act} {ws w : World} {B : Nat} (hm : P.follows .mixedOrders = true) (hf : fwdB ops = true) (hd : distB ops = true) (hgd : noGuard ops = true)
    (C : Nat → Value → World → Prop) (late : Nat → Bool) (m : Nat) (Z X p sx gz n : Nat → Nat) (r r0 : Nat → Nat → Int) (T : Nat → TypeId)
    (hW : Below B ws w) (hBs : B ≤ ws.heap.size)
    (S : World → Prop) (hS0 : S w.drew) (hSb : ∀ w1 w2, S w1 → Below w1.heap.size w1 w2 → S w2) (hSs : ∀ k, k < m → ∀ w1 cs, S w1 → S (w1.setRow (gz k) cs))
    (hst : ∀ i v w1 w2, C i v w1 → Below w1.heap.size w1 w2 → C i v w2)
    (hZ : ∀ k, k < m → stoB P ops a0.tmps.size (Z k) (X k) (p k) (sx k) (n k) (T k) = true)
    (hZd : ∀ k, k < m → B ≤ gz k ∧ a0.tmps[p k]? = some (.pointer (some ⟨gz k, 0, none⟩)) ∧ Blk w (gz k) (u8s (n k) (r0 k)) (T k) ∧ (∀ v w', C (X k) v w' → v = .agg (u8s (n k) (r k))) ∧ (∀ k', k' < m → Z k' ≠ X k) ∧ ∀ k', k' < m → (k ≠ k' → gz k ≠ gz k' ∧ Z k ≠ Z k'))
    (hlate : lateB ops late m Z = true)
    (hC : ∀ i o, ops[i]? = some o → (∀ k, k < m → Z k ≠ i) → ∀ a w2, Below B ws w2 → S w2 → (late i = false → Below w.heap.size w w2) →
      (∀ j oj s, ops[j]? = some oj → oj.dst = some s → waits o j = true → decide (s < a0.tmps.size) = true → (∀ k, k < m → Z k ≠ j) → (∃ w', C j (a.eval (.tmp s)) w') ∧ (late i = false → C j (a.eval (.tmp s)) w2)) →
      (∀ s v, noDst ops s = true → a0.tmps[s]? = some v → a.eval (.tmp s) = v) → WpV P o a w2 (C i) Q)
    (hend : ∀ (vals : Nat → Value) w', Below B ws w' → S w' → (m = 0 → Below w.heap.size w w' ∧ ∀ i, i < ops.length → C i (vals i) w') → (∀ i, i < ops.length → (∀ k, k < m → Z k ≠ i) → ∃ w', C i (vals i) w') →
      (∀ k, k < m → Blk w' (gz k) (u8s (n k) (r k)) (T k)) → Q .normal (putAll ops (List.replicate ops.length true) vals 0 a0) w') :
    (Code.region id ops.toArray true).wp P Q a0 w := by
  refine region_inv hm hf (LG ops a0 ws w B S C m Z gz n r r0 T) ?_ ?_ ?_
  · rintro i o ho ls a w2 hl hli haft ⟨vals, rfl, ⟨hB, hS⟩, hcl, hc, hr, hn⟩
    by_cases hz : ∀ k, k < m → Z k ≠ i
    · have hnl : late i = false → ∀ k, k < m → ls[Z k]? ≠ some true := fun hh k hk hq => by
        have h1 := lateB_spec hlate hcl (List.getElem?_eq_some_iff.1 ho).1 hh hz hk hq
        rw [hli] at h1; cases h1
      have hwp := hC i o ho hz (putAll ops ls vals 0 a0) w2 hB hS (fun hh => (hn (hnl hh)).1)
        (fun j oj s hj hs hw hsz hzj => by
          obtain ⟨e, he, hb, rfl⟩ := waits_spec hw
          have h1 := haft e he hb
          have h2 := eval_tmp (putAll_get (vals := vals) s ops ls 0 a0 e.on oj hd hj hs h1 (of_decide_eq_true hsz))
          rw [Nat.zero_add] at h2
          rw [h2]
          exact ⟨hc _ h1 hzj, fun hh => (hn (hnl hh)).2 _ h1⟩)
        (fun s v h1 h2 => eval_tmp ((putAll_other s ops ls 0 a0 (noDst_spec h1)).trans h2))
      refine wpOp_mono ?_ (wpOp_plain ho (noGuard_spec hgd ho) hwp)
      rintro a' w' ⟨v, rfl, hv, hb⟩
      refine ⟨upd vals i v, ?_, ⟨hB.trans (hb.mono (Nat.le_trans hBs hB.size)), hSb _ _ hS hb⟩, closed_set ho hcl haft hli, fun j hj hzj => ?_, fun k hk => ?_, fun hno => ?_⟩
      · have := putAll_set (vals := vals) v ops ls 0 a0 i o hd ho hli
        rw [Nat.zero_add] at this
        exact this.symm
      · by_cases e : j = i
        · subst e; rw [upd_same]; exact ⟨_, hv⟩
        · rw [upd_ne e]; rw [set_ne (Ne.symm e)] at hj; exact hc j hj hzj
      · rw [set_ne (Ne.symm (hz k hk))]; exact (hr k hk).keep hb
      · have hno' : ∀ k, k < m → ls[Z k]? ≠ some true := fun k hk => by have := hno k hk; rwa [set_ne (Ne.symm (hz k hk))] at this
        obtain ⟨h1, h2⟩ := hn hno'
        refine ⟨below_step h1 hb, fun j hj => ?_⟩
        by_cases e : j = i
        · subst e; rw [upd_same]; exact hv
        · rw [upd_ne e]; rw [set_ne (Ne.symm e)] at hj; exact hst _ _ _ _ (h2 j hj) hb
    · obtain ⟨k, hk, rfl⟩ : ∃ k, k < m ∧ Z k = i := Classical.byContradiction fun h => hz fun k hk e => h ⟨k, hk, e⟩
      obtain ⟨⟨o', oX, ho', hop, hex, hoX, hdX⟩, hnd, hsz, hinfo⟩ := stoB_spec (hZ k hk)
      obtain rfl : o' = o := by rw [ho] at ho'; exact (Option.some.inj ho').symm
      obtain ⟨hge, hp, _, hX, hXz, hdis⟩ := hZd k hk
      obtain ⟨e, he, hb, heX⟩ := hex
      have hlX := haft e he hb
      rw [heX] at hlX
      have hx := eval_tmp ((putAll_other (vals := vals) (p k) ops ls 0 a0 (noDst_spec hnd)).trans hp)
      have hy := eval_tmp (putAll_get (vals := vals) (sx k) ops ls 0 a0 (X k) oX hd hoX hdX hlX hsz)
      obtain ⟨wx, hcx⟩ := hc _ hlX hXz
      rw [Nat.zero_add, hX _ _ hcx] at hy
      have hB2 := hr k hk
      have hnz : ¬ ls[Z k]? = some true := fun h => by rw [hli] at h; cases h
      rw [if_neg hnz] at hB2
      refine wpOp_plain ho (noGuard_spec hgd ho) (wp_store_arr (T k) _ _ hop (gz k) hx _ hy _ (T k) hB2 (by rw [u8s_size]; exact hinfo) (by rw [u8s_size, u8s_size]) (u8s_oneCell _ _) ?_)
      refine ⟨upd vals (Z k) undef, ?_, ⟨below_setRow hB hge _, hSs k hk _ _ hS⟩, closed_set ho hcl haft hli, fun j hj hzj => ?_, fun k' hk' => ?_, fun hno => ?_⟩
      · have := putAll_set (vals := vals) undef ops ls 0 a0 (Z k) o' hd ho hli
        rw [Nat.zero_add] at this
        exact this.symm
      · have e1 : j ≠ Z k := fun h => hzj k hk h.symm
        rw [upd_ne e1]; rw [set_ne (Ne.symm e1)] at hj; exact hc j hj hzj
      · by_cases e1 : k = k'
        · subst e1
          rw [set_same hli, if_pos rfl]
          exact hB2.setRow_same
        · obtain ⟨h1, h2⟩ := hdis k' hk' e1
          rw [set_ne h2]
          exact (hr k' hk').setRow_other (Ne.symm h1)
      · exact absurd (set_same hli) (hno k hk)
  · rintro ls a w' hl hall ⟨vals, rfl, ⟨hB, hS⟩, hcl, hc, hr, hn⟩
    have : ls = List.replicate ops.length true := by
      apply List.ext_getElem?
      intro i
      by_cases h : i < ops.length
      · rw [hall i h, List.getElem?_replicate, if_pos h]
      · rw [List.getElem?_eq_none (by omega), List.getElem?_eq_none (by simp; omega)]
    subst this
    refine hend vals w' hB hS (fun h0 => ?_) (fun i hi hz => hc i (hall i hi) hz) (fun k hk => ?_)
    · obtain ⟨h1, h2⟩ := hn fun k hk => absurd hk (by omega)
      exact ⟨h1, fun i hi => h2 i (hall i hi)⟩
    · have h3 := hr k hk
      obtain ⟨⟨oZ, _, hoZ, _⟩, _⟩ := stoB_spec (hZ k hk)
      rw [if_pos (hall _ (List.getElem?_eq_some_iff.1 hoZ).1)] at h3
      exact h3
  · have hno : ∀ j, (List.replicate ops.length false)[j]? ≠ some true := fun j h => by
      rw [List.getElem?_replicate] at h
      split at h <;> cases h
    have hz : putAll ops (List.replicate ops.length false) (fun _ => undef) 0 a0 = a0 := by
      have key : ∀ (os : List Oper) (k : Nat) (a : Act), putAll os (List.replicate os.length false) (fun _ => undef) k a = a := by
        intro os
        induction os with
        | nil => intro k a; unfold putAll; rfl
        | cons o os ih => intro k a; rw [List.length_cons, List.replicate_succ]; unfold putAll; rw [if_neg (by simp)]; exact ih (k + 1) a
      exact key ops 0 a0
    refine ⟨fun _ => undef, hz.symm, ⟨hW.drew, hS0⟩, fun i o _ h => absurd h (hno i), fun j h => absurd h (hno j), fun k hk => ?_, fun _ => ⟨(Below.refl _ _).drew, fun j h => absurd h (hno j)⟩⟩
    rw [if_neg (hno _)]
    exact (hZd k hk).2.2.1.drew

theorem wp_build_zeroB {o : Oper} {a : Act} {w : World} (t n e : Nat) (hop : o.op = .build t #[]) (ht : P.underlying t = some (.array n e)) (hs : (P.info? e).map (·.size) = some 1)
    (hz : (P.info? t).bind (·.zero) = some (.agg (u8s n fun _ => 0))) : o.wp P a w (fun a' w' => a' = a.put o.dst (.agg (u8s n fun _ => 0)) ∧ Below w.heap.size w w') Q := by
  obtain ⟨i, hi, hz⟩ := Option.bind_eq_some_iff.1 hz
  obtain ⟨ie, hie, hse⟩ := Option.map_eq_some_iff.1 hs
  unfold Oper.wp execOp
  simp [hop, Instr.build, zeroValue, typeInfo, hi, hz, Sem.run_bind, Value.cells, run_underlying ht w, sizeOf, hie, Instr.fill, Oper.upon]
  exact Below.refl _ _
variable {o : Oper} {a : Act} {w : World} {C : Value → World → Prop}
theorem wpv_of {c : Value} (h : o.wp P a w (fun a' w' => a' = a.put o.dst c ∧ Below w.heap.size w w') Q) (hc : ∀ w', Below w.heap.size w w' → C c w') : WpV P o a w C Q :=
  Oper.wp_mono (fun _ w' h => ⟨c, h.1, hc w' h.2, h.2⟩) h
theorem wpv_call (k : Nat) (as : List Operand) (ts : Array TypeId) (hop : o.op = .call { callee := .value (.func k), args := as.toArray, argTypes := ts }) (vs : List Value) (hvs : as.map a.eval = vs)
    (hk : ∀ args w, (callFunc k args).run P w = .ok (.enter k args) w) (hc : Calls P k vs.toArray w fun e w' => ∃ v, e = .returned v ∧ C v w' ∧ Below w.heap.size w w') : WpV P o a w C Q :=
  wp_callF k as ts hop vs hvs hk (hc.mono fun _ _ ⟨v, h1, h2, h3⟩ => ⟨v, h1, v, rfl, h2, h3⟩)
end
end Go.Proofs.Ytojkngdabejjdaa

/- Single operations of a region that draws its order: an element's place, a cell, a row of one number, a number's conversion. No program in sight. -/
namespace Go.Proofs.Ytojkngdabejjdaa
open Go.RowKit
theorem putAll_notyet {vals : Nat → Value} (s : Nat) : ∀ (os : List Oper) (ls : List Bool) (k : Nat) (a : Act) (j : Nat) (o : Oper), distB os = true → os[j]? = some o → o.dst = some s → ls[j]? ≠ some true →
    (putAll os ls vals k a).tmps[s]? = a.tmps[s]?
  | [], _, _, _, j, _, _, h, _, _ => by simp at h
  | _ :: _, [], _, _, _, _, _, _, _, _ => by unfold putAll; rfl
  | o' :: os, b :: ls, k, a, 0, o, hd, ho, hs, hl => by
    obtain ⟨h1, h2⟩ := distB_cons hd
    have e1 : o' = o := by simpa using ho
    subst e1
    unfold putAll
    rw [putAll_other s os ls (k + 1) _ (h1 s hs)]
    cases b
    · rfl
    · exact absurd rfl hl
  | o' :: os, b :: ls, k, a, j + 1, o, hd, ho, hs, hl => by
    obtain ⟨h1, h2⟩ := distB_cons hd
    unfold putAll
    have := putAll_notyet (vals := vals) s os ls (k + 1) (if b then a.put o'.dst (vals k) else a) j o h2 (by simpa using ho) hs (by simpa using hl)
    rw [this]
    cases b
    · rfl
    · exact put_get_ne a o'.dst _ s fun e => h1 s e o (List.mem_of_getElem? (by simpa using ho)) hs
section
variable {P : Program} {Q : Exit → Act → World → Prop}
theorem gen_region2 {ops : List Oper} {id : Nat} {a0 : Act} {ws w : World} {B : Nat} (hm : P.follows .mixedOrders = true) (hf : fwdB ops = true) (hd : distB ops = true) (hgd : noGuard ops = true)
    (C : Nat → Value → World → Prop) (late : Nat → Bool) (m : Nat) (Z X p sx gz n : Nat → Nat) (r r0 : Nat → Nat → Int) (T : Nat → TypeId)
    (hW : Below B ws w) (hBs : B ≤ ws.heap.size)
    (S : World → Prop) (hS0 : S w.drew) (hSb : ∀ w1 w2, S w1 → Below w1.heap.size w1 w2 → S w2) (hSs : ∀ k, k < m → ∀ w1 cs, S w1 → S (w1.setRow (gz k) cs))
    (hst : ∀ i v w1 w2, C i v w1 → Below w1.heap.size w1 w2 → C i v w2)
    (hZ : ∀ k, k < m → stoB P ops a0.tmps.size (Z k) (X k) (p k) (sx k) (n k) (T k) = true)
    (hZd : ∀ k, k < m → B ≤ gz k ∧ a0.tmps[p k]? = some (.pointer (some ⟨gz k, 0, none⟩)) ∧ Blk w (gz k) (u8s (n k) (r0 k)) (T k) ∧ (∀ v w', C (X k) v w' → v = .agg (u8s (n k) (r k))) ∧ (∀ k', k' < m → Z k' ≠ X k) ∧ ∀ k', k' < m → (k ≠ k' → gz k ≠ gz k' ∧ Z k ≠ Z k'))
    (hlate : lateB ops late m Z = true)
    (hC : ∀ i o, ops[i]? = some o → (∀ k, k < m → Z k ≠ i) → ∀ a w2, Below B ws w2 → S w2 → (late i = false → Below w.heap.size w w2) →
      (∀ j oj s, ops[j]? = some oj → oj.dst = some s → waits o j = true → decide (s < a0.tmps.size) = true → (∀ k, k < m → Z k ≠ j) → (∃ w', C j (a.eval (.tmp s)) w') ∧ (late i = false → C j (a.eval (.tmp s)) w2)) →
      (∀ s v, noDst ops s = true → a0.tmps[s]? = some v → a.eval (.tmp s) = v) →
      (∀ j oj s v, ops[j]? = some oj → oj.dst = some s → (clos ops ops.length [j]).contains i = true → a0.tmps[s]? = some v → a.eval (.tmp s) = v) → WpV P o a w2 (C i) Q)
    (hend : ∀ (vals : Nat → Value) w', Below B ws w' → S w' → (m = 0 → Below w.heap.size w w' ∧ ∀ i, i < ops.length → C i (vals i) w') → (∀ i, i < ops.length → (∀ k, k < m → Z k ≠ i) → ∃ w', C i (vals i) w') →
      (∀ k, k < m → Blk w' (gz k) (u8s (n k) (r k)) (T k)) → Q .normal (putAll ops (List.replicate ops.length true) vals 0 a0) w') :
    (Code.region id ops.toArray true).wp P Q a0 w := by
  refine region_inv hm hf (LG ops a0 ws w B S C m Z gz n r r0 T) ?_ ?_ ?_
  · rintro i o ho ls a w2 hl hli haft ⟨vals, rfl, ⟨hB, hS⟩, hcl, hc, hr, hn⟩
    by_cases hz : ∀ k, k < m → Z k ≠ i
    · have hnl : late i = false → ∀ k, k < m → ls[Z k]? ≠ some true := fun hh k hk hq => by
        have h1 := lateB_spec hlate hcl (List.getElem?_eq_some_iff.1 ho).1 hh hz hk hq
        rw [hli] at h1; cases h1
      have hwp := hC i o ho hz (putAll ops ls vals 0 a0) w2 hB hS (fun hh => (hn (hnl hh)).1)
        (fun j oj s hj hs hw hsz hzj => by
          obtain ⟨e, he, hb, rfl⟩ := waits_spec hw
          have h1 := haft e he hb
          have h2 := eval_tmp (putAll_get (vals := vals) s ops ls 0 a0 e.on oj hd hj hs h1 (of_decide_eq_true hsz))
          rw [Nat.zero_add] at h2
          rw [h2]
          exact ⟨hc _ h1 hzj, fun hh => (hn (hnl hh)).2 _ h1⟩)
        (fun s v h1 h2 => eval_tmp ((putAll_other s ops ls 0 a0 (noDst_spec h1)).trans h2))
        (fun j oj s v hj hs hcl2 h2 => by
          have hnj : ls[j]? ≠ some true := fun hq => by
            have h1 := clos_done hcl ops.length [j] (fun x hx => by rw [List.mem_singleton] at hx; rw [hx]; exact hq) i (by simpa using hcl2)
            rw [hli] at h1; cases h1
          exact eval_tmp ((putAll_notyet s ops ls 0 a0 j oj hd hj hs hnj).trans h2))
      refine wpOp_mono ?_ (wpOp_plain ho (noGuard_spec hgd ho) hwp)
      rintro a' w' ⟨v, rfl, hv, hb⟩
      refine ⟨upd vals i v, ?_, ⟨hB.trans (hb.mono (Nat.le_trans hBs hB.size)), hSb _ _ hS hb⟩, closed_set ho hcl haft hli, fun j hj hzj => ?_, fun k hk => ?_, fun hno => ?_⟩
      · have := putAll_set (vals := vals) v ops ls 0 a0 i o hd ho hli
        rw [Nat.zero_add] at this
        exact this.symm
      · by_cases e : j = i
        · subst e; rw [upd_same]; exact ⟨_, hv⟩
        · rw [upd_ne e]; rw [set_ne (Ne.symm e)] at hj; exact hc j hj hzj
      · rw [set_ne (Ne.symm (hz k hk))]; exact (hr k hk).keep hb
      · have hno' : ∀ k, k < m → ls[Z k]? ≠ some true := fun k hk => by have := hno k hk; rwa [set_ne (Ne.symm (hz k hk))] at this
        obtain ⟨h1, h2⟩ := hn hno'
        refine ⟨below_step h1 hb, fun j hj => ?_⟩
        by_cases e : j = i
        · subst e; rw [upd_same]; exact hv
        · rw [upd_ne e]; rw [set_ne (Ne.symm e)] at hj; exact hst _ _ _ _ (h2 j hj) hb
    · obtain ⟨k, hk, rfl⟩ : ∃ k, k < m ∧ Z k = i := Classical.byContradiction fun h => hz fun k hk e => h ⟨k, hk, e⟩
      obtain ⟨⟨o', oX, ho', hop, hex, hoX, hdX⟩, hnd, hsz, hinfo⟩ := stoB_spec (hZ k hk)
      obtain rfl : o' = o := by rw [ho] at ho'; exact (Option.some.inj ho').symm
      obtain ⟨hge, hp, _, hX, hXz, hdis⟩ := hZd k hk
      obtain ⟨e, he, hb, heX⟩ := hex
      have hlX := haft e he hb
      rw [heX] at hlX
      have hx := eval_tmp ((putAll_other (vals := vals) (p k) ops ls 0 a0 (noDst_spec hnd)).trans hp)
      have hy := eval_tmp (putAll_get (vals := vals) (sx k) ops ls 0 a0 (X k) oX hd hoX hdX hlX hsz)
      obtain ⟨wx, hcx⟩ := hc _ hlX hXz
      rw [Nat.zero_add, hX _ _ hcx] at hy
      have hB2 := hr k hk
      have hnz : ¬ ls[Z k]? = some true := fun h => by rw [hli] at h; cases h
      rw [if_neg hnz] at hB2
      refine wpOp_plain ho (noGuard_spec hgd ho) (wp_store_arr (T k) _ _ hop (gz k) hx _ hy _ (T k) hB2 (by rw [u8s_size]; exact hinfo) (by rw [u8s_size, u8s_size]) (u8s_oneCell _ _) ?_)
      refine ⟨upd vals (Z k) undef, ?_, ⟨below_setRow hB hge _, hSs k hk _ _ hS⟩, closed_set ho hcl haft hli, fun j hj hzj => ?_, fun k' hk' => ?_, fun hno => ?_⟩
      · have := putAll_set (vals := vals) undef ops ls 0 a0 (Z k) o' hd ho hli
        rw [Nat.zero_add] at this
        exact this.symm
      · have e1 : j ≠ Z k := fun h => hzj k hk h.symm
        rw [upd_ne e1]; rw [set_ne (Ne.symm e1)] at hj; exact hc j hj hzj
      · by_cases e1 : k = k'
        · subst e1
          rw [set_same hli, if_pos rfl]
          exact hB2.setRow_same
        · obtain ⟨h1, h2⟩ := hdis k' hk' e1
          rw [set_ne h2]
          exact (hr k' hk').setRow_other (Ne.symm h1)
      · exact absurd (set_same hli) (hno k hk)
  · rintro ls a w' hl hall ⟨vals, rfl, ⟨hB, hS⟩, hcl, hc, hr, hn⟩
    have : ls = List.replicate ops.length true := by
      apply List.ext_getElem?
      intro i
      by_cases h : i < ops.length
      · rw [hall i h, List.getElem?_replicate, if_pos h]
      · rw [List.getElem?_eq_none (by omega), List.getElem?_eq_none (by simp; omega)]
    subst this
    refine hend vals w' hB hS (fun h0 => ?_) (fun i hi hz => hc i (hall i hi) hz) (fun k hk => ?_)
    · obtain ⟨h1, h2⟩ := hn fun k hk => absurd hk (by omega)
      exact ⟨h1, fun i hi => h2 i (hall i hi)⟩
    · have h3 := hr k hk
      obtain ⟨⟨oZ, _, hoZ, _⟩, _⟩ := stoB_spec (hZ k hk)
      rw [if_pos (hall _ (List.getElem?_eq_some_iff.1 hoZ).1)] at h3
      exact h3
  · have hno : ∀ j, (List.replicate ops.length false)[j]? ≠ some true := fun j h => by
      rw [List.getElem?_replicate] at h
      split at h <;> cases h
    have hz : putAll ops (List.replicate ops.length false) (fun _ => undef) 0 a0 = a0 := by
      have key : ∀ (os : List Oper) (k : Nat) (a : Act), putAll os (List.replicate os.length false) (fun _ => undef) k a = a := by
        intro os
        induction os with
        | nil => intro k a; unfold putAll; rfl
        | cons o os ih => intro k a; rw [List.length_cons, List.replicate_succ]; unfold putAll; rw [if_neg (by simp)]; exact ih (k + 1) a
      exact key ops 0 a0
    refine ⟨fun _ => undef, hz.symm, ⟨hW.drew, hS0⟩, fun i o _ h => absurd h (hno i), fun j h => absurd h (hno j), fun k hk => ?_, fun _ => ⟨(Below.refl _ _).drew, fun j h => absurd h (hno j)⟩⟩
    rw [if_neg (hno _)]
    exact (hZd k hk).2.2.1.drew

end
section
variable {P : Program} {Q : Exit → Act → World → Prop} {o : Oper} {a : Act} {w : World}
theorem wp_index_row (t e : TypeId) (x i : Operand) (hop : o.op = .indexAddr t x i) (ht : P.underlying t = some (.slice e)) (hs : (P.info? e).map (·.size) = some 1) (b off n c k : Nat) (kd : IntKind)
    (hx : a.eval x = .slice (some ⟨b, off, none⟩) n c) (hi : a.eval i = .int kd (k : Int)) (hk : k < n) : o.wp P a w (fun a' w' => a' = a.put o.dst (.pointer (some ⟨b, off + k, none⟩)) ∧ Below w.heap.size w w') Q := by
  obtain ⟨ie, hie, hse⟩ := Option.map_eq_some_iff.1 hs
  unfold Oper.wp execOp
  simp [hop, hx, hi, Instr.indexAt, run_underlying ht w, asIntOf, Sem.run_bind, sizeOf, typeInfo, hie, hse, hk, Oper.upon, Addr.add]
  refine ⟨?_, Below.refl _ _⟩
  by_cases h0 : k = 0
  · subst h0; simp
  · simp [h0]
theorem wp_index_arr (t e N : Nat) (x i : Operand) (hop : o.op = .indexAddr t x i) (ht : P.underlying t = some (.array N e)) (hs : (P.info? e).map (·.size) = some 1) (b k : Nat) (kd : IntKind)
    (hx : a.eval x = .pointer (some ⟨b, 0, none⟩)) (hi : a.eval i = .int kd (k : Int)) (hk : k < N) : o.wp P a w (fun a' w' => a' = a.put o.dst (.pointer (some ⟨b, k, none⟩)) ∧ Below w.heap.size w w') Q := by
  obtain ⟨ie, hie, hse⟩ := Option.map_eq_some_iff.1 hs
  unfold Oper.wp execOp
  simp [hop, hx, hi, Instr.indexAt, run_underlying ht w, asIntOf, Sem.run_bind, sizeOf, typeInfo, hie, hse, hk, Oper.upon, Addr.add, Instr.sureAddr]
  refine ⟨?_, Below.refl _ _⟩
  by_cases h0 : k = 0
  · subst h0; simp
  · simp [h0]
theorem wp_load_cell (t : TypeId) (x : Operand) (hop : o.op = .load t x) (ad : Addr) (hx : a.eval x = .pointer (some ad)) (k : IntKind) (ht : P.underlying t = some (.int k)) (v : Value) (hc : w.cell? ad = some v) :
    o.wp P a w (fun a' w' => a' = a.put o.dst v ∧ Below w.heap.size w w') Q := by
  unfold Oper.wp execOp
  simp [hop, hx, Instr.loadAt, Instr.sureAddr, loadVar, isAgg, run_underlying ht w, Sem.run_bind, hc, Oper.upon]
  exact Below.refl _ _
theorem wpv_row_one (t e : TypeId) (x : Operand) (hop : o.op = .buildSlice t 1 #[(0, x)]) (ht : P.underlying t = some (.slice e)) (hs : (P.info? e).map (·.size) = some 1) (hz : (P.info? e).bind (·.zero) = some (.int .i64 0)) (v : Int) (hx : a.eval x = .int .i64 v) :
    WpV P o a w (fun u w' => ∃ g, u = .slice (some ⟨g, 0, none⟩) 1 1 ∧ w'.cell? ⟨g, 0, none⟩ = some (.int .i64 v)) Q := by
  obtain ⟨ie, hie, hse⟩ := Option.map_eq_some_iff.1 hs
  have hz2 : ie.zero = some (.int .i64 0) := by rw [hie] at hz; exact hz
  unfold WpV Oper.wp execOp
  simp [hop, hx, Instr.buildSlice, Sem.run_bind, run_underlying ht w, sizeOf, typeInfo, hie, hse, zeroValue, hz2, Instr.fill, newRow, newObj, Oper.upon, Value.cells]
  exact ⟨_, rfl, ⟨_, rfl, (Blk.new w ((Array.map (fun x => [Value.int IntKind.i64 0][x % 1]?.getD default) (Array.range 1)).setIfInBounds 0 (Value.int IntKind.i64 v)) e).cell 0 |>.trans (by simp)⟩, below_new _ _⟩
theorem wp_conv_u8 (s d : TypeId) (x : Operand) (hop : o.op = .convert s d x) (v : Int) (hx : a.eval x = .int .u8 v) (h0 : 0 ≤ v) (h1 : v ≤ 255) (hs : P.underlying s = some (.int .u8)) (hd : P.underlying d = some (.int .i64)) :
    o.wp P a w (fun a' w' => a' = a.put o.dst (.int .i64 v) ∧ Below w.heap.size w w') Q := by
  have hk : P.intKind d = .i64 := by simp [Program.intKind, hd]
  have h2 := run_convert_int (P := P) w s d .u8 v (by rw [hs]; rfl) (by rw [hk]; exact hd)
  have hw : IntKind.i64.wrap v = v := by rw [IntKind.wrap_i64]; omega
  rw [hk, hw] at h2
  unfold Oper.wp execOp
  simp [hop, hx, h2, Oper.upon]
  exact Below.refl _ _
end
section
variable {P : Program} {Q : Exit → Act → World → Prop}
theorem law_regionD {ops : List Oper} {id : Nat} {a0 : Act} {w : World} (hm : P.follows .mixedOrders = true) (hf : fwdB ops = true) (hd : distB ops = true)
    (Base : World → Prop) (base : Nat) (hBb : ∀ w w', Base w → Below w.heap.size w w' → Base w') (hBs : ∀ w g cs, Base w → base ≤ g → Base (w.setRow g cs)) (hBd : ∀ w, Base w → base ≤ w.heap.size)
    (C : Nat → Option Value) (m : Nat) (A Z X pA sx n : Nat → Nat) (r : Nat → Nat → Int) (T : Nat → TypeId)
    (hcls : ∀ i o, ops[i]? = some o → (∃ c, C i = some c) ∨ (∃ k, k < m ∧ i = A k) ∨ (∃ k, k < m ∧ i = Z k))
    (hA : ∀ k, k < m → C (A k) = none ∧ C (Z k) = none ∧ ∀ k', k' < m → A k ≠ Z k' ∧ (A k = A k' → k = k') ∧ (Z k = Z k' → k = k'))
    (hAop : ∀ k, k < m → ∃ o, ops[A k]? = some o ∧ o.op = .alloc (T k) ∧ o.dst = some (pA k) ∧ o.guard = none ∧ (P.info? (T k)).bind (·.zero) = some (.agg (u8s (n k) fun _ => 0)) ∧ pA k < a0.tmps.size)
    (hZop : ∀ k, k < m → ∃ o oX, ops[Z k]? = some o ∧ o.op = .store (T k) (.tmp (pA k)) (.tmp (sx k)) ∧ o.guard = none ∧ (∃ e ∈ o.after, Region.binds .any e = true ∧ e.on = A k) ∧ (∃ e ∈ o.after, Region.binds .any e = true ∧ e.on = X k) ∧
      ops[X k]? = some oX ∧ oX.dst = some (sx k) ∧ C (X k) = some (.agg (u8s (n k) (r k))) ∧ sx k < a0.tmps.size ∧ (P.info? (T k)).map (·.size) = some (n k))
    (hC : ∀ i o c, ops[i]? = some o → C i = some c → ∀ a w, Base w → a.tmps.size = a0.tmps.size →
      (∀ j oj cj s, ops[j]? = some oj → oj.dst = some s → C j = some cj → (∃ e ∈ o.after, Region.binds .any e = true ∧ e.on = j) → s < a0.tmps.size → a.tmps[s]? = some cj) →
      (∀ s, (∀ o ∈ ops, o.dst ≠ some s) → a.tmps[s]? = a0.tmps[s]?) → o.guard = none ∧ o.wp P a w (fun a' w' => a' = a.put o.dst c ∧ Below w.heap.size w w') Q)
    (h0 : Base w.drew)
    (hend : ∀ (vals : Nat → Value) w', Base w' → (∀ i c, i < ops.length → C i = some c → vals i = c) → (∀ k, k < m → ∃ g, vals (A k) = .pointer (some ⟨g, 0, none⟩) ∧ base ≤ g ∧ Blk w' g (u8s (n k) (r k)) (T k)) → (∀ k k', k < m → k' < m → k ≠ k' → vals (A k) ≠ vals (A k')) →
      ∀ ls, (∀ i, i < ops.length → ls[i]? = some true) → ls.length = ops.length → Q .normal (putAll ops ls vals 0 a0) w') :
    (Code.region id ops.toArray true).wp P Q a0 w := by
  refine region_inv hm hf (LI P ops a0 Base base C m A Z n r T) ?_ ?_ ?_
  · rintro i o ho ls a w hl hli haft ⟨vals, rfl, hB, hc, hr, hne, hza⟩
    rcases hcls i o ho with ⟨c, hci⟩ | ⟨k, hk, rfl⟩ | ⟨k, hk, rfl⟩
    · obtain ⟨hg, hwp⟩ := hC i o c ho hci (putAll ops ls vals 0 a0) w hB (putAll_size ops ls 0 a0)
        (fun j oj cj s hj hs hcj hex hsz => by
          obtain ⟨e, he, hb, rfl⟩ := hex
          have h1 := haft e he hb
          rw [putAll_get s ops ls 0 a0 e.on oj hd hj hs h1 hsz, Nat.zero_add, hc e.on cj hcj h1])
        (fun s hs => putAll_other s ops ls 0 a0 hs)
      refine wpOp_mono ?_ (wpOp_plain ho hg hwp)
      rintro a' w' ⟨rfl, hb⟩
      have hAi : ∀ k, k < m → A k ≠ i := fun k hk e => by rw [← e, (hA k hk).1] at hci; cases hci
      have hZi : ∀ k, k < m → Z k ≠ i := fun k hk e => by rw [← e, (hA k hk).2.1] at hci; cases hci
      refine ⟨upd vals i c, ?_, hBb _ _ hB hb, fun j cj hcj hj => ?_, fun k hk hj => ?_, fun k k' hk hk' hkk h1 h2 => ?_, fun k hk h1 => ?_⟩
      · have := putAll_set (vals := vals) c ops ls 0 a0 i o hd ho hli
        rw [Nat.zero_add] at this
        exact this.symm
      · by_cases e : j = i
        · subst e; rw [upd_same]; rw [hci] at hcj; exact Option.some.inj hcj
        · rw [upd_ne e]; rw [set_ne (Ne.symm e)] at hj; exact hc j cj hcj hj
      · rw [set_ne (Ne.symm (hAi k hk))] at hj
        obtain ⟨g, h1, h2, h3⟩ := hr k hk hj
        rw [upd_ne (hAi k hk), set_ne (Ne.symm (hZi k hk))]
        exact ⟨g, h1, h2, h3.keep hb⟩
      · rw [set_ne (Ne.symm (hAi k hk))] at h1
        rw [set_ne (Ne.symm (hAi k' hk'))] at h2
        rw [upd_ne (hAi k hk), upd_ne (hAi k' hk')]
        exact hne k k' hk hk' hkk h1 h2
      · rw [set_ne (Ne.symm (hZi k hk))] at h1
        rw [set_ne (Ne.symm (hAi k hk))]
        exact hza k hk h1
    · obtain ⟨o', ho', hop, hdst, hg, hz, hsz⟩ := hAop k hk
      obtain rfl : o' = o := by rw [ho] at ho'; exact (Option.some.inj ho').symm
      refine wpOp_plain ho hg (wp_alloc_arr (T k) hop _ hz ?_)
      refine ⟨upd vals (A k) (.pointer (some ⟨w.heap.size, 0, none⟩)), ?_, hBb _ _ hB (below_new _ _), fun j cj hcj hj => ?_, fun k' hk' hj => ?_, fun k1 k2 hk1 hk2 hkk h1 h2 => ?_, fun k' hk' h1 => ?_⟩
      · have := putAll_set (vals := vals) (.pointer (some ⟨w.heap.size, 0, none⟩)) ops ls 0 a0 (A k) o' hd ho hli
        rw [Nat.zero_add] at this
        exact this.symm
      · have e : j ≠ A k := fun e => by rw [e, (hA k hk).1] at hcj; cases hcj
        rw [upd_ne e]; rw [set_ne (Ne.symm e)] at hj; exact hc j cj hcj hj
      · have eZ : A k ≠ Z k' := ((hA k hk).2.2 k' hk').1
        by_cases e : k' = k
        · subst e
          have hnz : ¬ ls[Z k']? = some true := fun h => by rw [hza k' hk h] at hli; cases hli
          rw [upd_same, set_ne eZ, if_neg hnz]
          exact ⟨_, rfl, hBd _ hB, Blk.new _ _ _⟩
        · have eA : A k' ≠ A k := fun h => e (((hA k' hk').2.2 k hk).2.1 h)
          rw [set_ne (Ne.symm eA)] at hj
          obtain ⟨g, h1, h2, h3⟩ := hr k' hk' hj
          rw [upd_ne eA, set_ne eZ]
          exact ⟨g, h1, h2, h3.alloc _⟩
      · have key : ∀ k', k' < m → k' ≠ k → (ls.set (A k) true)[A k']? = some true → upd vals (A k) (.pointer (some ⟨w.heap.size, 0, none⟩)) (A k') ≠ .pointer (some ⟨w.heap.size, 0, none⟩) := fun k' hk' e hj => by
          have eA : A k' ≠ A k := fun h => e (((hA k' hk').2.2 k hk).2.1 h)
          rw [set_ne (Ne.symm eA)] at hj
          obtain ⟨g, h1, h2, h3⟩ := hr k' hk' hj
          rw [upd_ne eA, h1]
          intro h
          have := h3.lt
          simp at h
          first | done | omega
        by_cases e1 : k1 = k
        · subst e1
          rw [upd_same]
          exact fun h => key k2 hk2 (Ne.symm hkk) h2 h.symm
        · by_cases e2 : k2 = k
          · subst e2
            have := key k1 hk1 e1 h1
            rw [upd_same]
            exact this
          · have eA1 : A k1 ≠ A k := fun h => e1 (((hA k1 hk1).2.2 k hk).2.1 h)
            have eA2 : A k2 ≠ A k := fun h => e2 (((hA k2 hk2).2.2 k hk).2.1 h)
            rw [set_ne (Ne.symm eA1)] at h1
            rw [set_ne (Ne.symm eA2)] at h2
            rw [upd_ne eA1, upd_ne eA2]
            exact hne k1 k2 hk1 hk2 hkk h1 h2
      · have eZ : A k ≠ Z k' := ((hA k hk).2.2 k' hk').1
        rw [set_ne eZ] at h1
        have h2 := hza k' hk' h1
        by_cases e : A k = A k'
        · rw [← e]; exact set_same hli
        · rw [set_ne e]; exact h2
    · obtain ⟨o', oX, ho', hop, hg, hexA, hexX, hoX, hdX, hCX, hsz, hinfo⟩ := hZop k hk
      obtain rfl : o' = o := by rw [ho] at ho'; exact (Option.some.inj ho').symm
      obtain ⟨oA, hoA, _, hdA, _, _, hszA⟩ := hAop k hk
      obtain ⟨e, he, hb, heA⟩ := hexA
      have hlA := haft e he hb
      rw [heA] at hlA
      obtain ⟨e', he', hb', heX⟩ := hexX
      have hlX := haft e' he' hb'
      rw [heX] at hlX
      obtain ⟨g, hv, hge, hB2⟩ := hr k hk hlA
      have hnz : ¬ ls[Z k]? = some true := fun h => by rw [hli] at h; cases h
      rw [if_neg hnz] at hB2
      have hx := eval_tmp (putAll_get (vals := vals) (pA k) ops ls 0 a0 (A k) oA hd hoA hdA hlA hszA)
      rw [Nat.zero_add, hv] at hx
      have hy := eval_tmp (putAll_get (vals := vals) (sx k) ops ls 0 a0 (X k) oX hd hoX hdX hlX hsz)
      rw [Nat.zero_add, hc _ _ hCX hlX] at hy
      refine wpOp_plain ho hg (wp_store_arr (T k) _ _ hop g hx _ hy _ (T k) hB2 (by rw [u8s_size]; exact hinfo) (by rw [u8s_size, u8s_size]) (u8s_oneCell _ _) ?_)
      refine ⟨upd vals (Z k) undef, ?_, hBs _ _ _ hB hge, fun j cj hcj hj => ?_, fun k' hk' hj => ?_, fun k1 k2 hk1 hk2 hkk h1 h2 => ?_, fun k' hk' h1 => ?_⟩
      · have := putAll_set (vals := vals) undef ops ls 0 a0 (Z k) o' hd ho hli
        rw [Nat.zero_add] at this
        exact this.symm
      · have e1 : j ≠ Z k := fun e1 => by rw [e1, (hA k hk).2.1] at hcj; cases hcj
        rw [upd_ne e1]; rw [set_ne (Ne.symm e1)] at hj; exact hc j cj hcj hj
      · have eZ : A k' ≠ Z k := ((hA k' hk').2.2 k hk).1
        rw [set_ne (Ne.symm eZ)] at hj
        rw [upd_ne eZ]
        by_cases e1 : k' = k
        · subst e1
          refine ⟨g, hv, hge, ?_⟩
          rw [set_same hli, if_pos rfl]
          exact hB2.setRow_same
        · obtain ⟨g', h1, h2, h3⟩ := hr k' hk' hj
          have eZ2 : Z k' ≠ Z k := fun h => e1 (((hA k' hk').2.2 k hk).2.2 h)
          rw [set_ne (Ne.symm eZ2)]
          refine ⟨g', h1, h2, h3.setRow_other fun h => ?_⟩
          subst h
          exact hne k' k hk' hk e1 hj hlA (by rw [h1, hv])
      · have eZ1 : A k1 ≠ Z k := ((hA k1 hk1).2.2 k hk).1
        have eZ2 : A k2 ≠ Z k := ((hA k2 hk2).2.2 k hk).1
        rw [set_ne (Ne.symm eZ1)] at h1
        rw [set_ne (Ne.symm eZ2)] at h2
        rw [upd_ne eZ1, upd_ne eZ2]
        exact hne k1 k2 hk1 hk2 hkk h1 h2
      · have eZ1 : A k' ≠ Z k := ((hA k' hk').2.2 k hk).1
        rw [set_ne (Ne.symm eZ1)]
        by_cases e1 : Z k = Z k'
        · have := ((hA k hk).2.2 k' hk').2.2 e1
          subst this
          exact hlA
        · rw [set_ne e1] at h1
          exact hza k' hk' h1
  · rintro ls a w' hl hall ⟨vals, rfl, hB, hc, hr, hne, _⟩
    refine hend vals w' hB (fun i c hi hci => hc i c hci (hall i hi)) (fun k hk => ?_) (fun k k' hk hk' hkk => by
      obtain ⟨oA, hoA, _⟩ := hAop k hk
      obtain ⟨oA', hoA', _⟩ := hAop k' hk'
      exact hne k k' hk hk' hkk (hall _ (List.getElem?_eq_some_iff.1 hoA).1) (hall _ (List.getElem?_eq_some_iff.1 hoA').1)) ls hall hl
    obtain ⟨oA, hoA, _⟩ := hAop k hk
    obtain ⟨oZ, _, hoZ, _⟩ := hZop k hk
    obtain ⟨g, h1, h2, h3⟩ := hr k hk (hall _ (List.getElem?_eq_some_iff.1 hoA).1)
    rw [if_pos (hall _ (List.getElem?_eq_some_iff.1 hoZ).1)] at h3
    exact ⟨g, h1, h2, h3⟩
  · have hno : ∀ j, (List.replicate ops.length false)[j]? ≠ some true := fun j h => by
      rw [List.getElem?_replicate] at h
      split at h <;> cases h
    have hz : putAll ops (List.replicate ops.length false) (fun _ => undef) 0 a0 = a0 := by
      have key : ∀ (os : List Oper) (k : Nat) (a : Act), putAll os (List.replicate os.length false) (fun _ => undef) k a = a := by
        intro os
        induction os with
        | nil => intro k a; unfold putAll; rfl
        | cons o os ih => intro k a; rw [List.length_cons, List.replicate_succ]; unfold putAll; rw [if_neg (by simp)]; exact ih (k + 1) a
      exact key ops 0 a0
    exact ⟨fun _ => undef, hz.symm, h0, fun j c _ h => absurd h (hno j), fun k _ h => absurd h (hno _), fun _ _ _ _ _ h _ => absurd h (hno _), fun k _ h => absurd h (hno _)⟩
theorem law_region3 {ops : List Oper} {id : Nat} {a0 : Act} {w : World} (hm : P.follows .mixedOrders = true) (hf : fwdB ops = true) (hd : distB ops = true) (hgd : noGuard ops = true)
    (C : Nat → Option Value) (m : Nat) (A Z X pA sx n : Nat → Nat) (r : Nat → Nat → Int) (T : Nat → TypeId)
    (hcls : ∀ i, i < ops.length → (∃ c, C i = some c) ∨ (∃ k, k < m ∧ i = A k) ∨ (∃ k, k < m ∧ i = Z k))
    (hA : ∀ k, k < m → C (A k) = none ∧ C (Z k) = none ∧ C (X k) = some (.agg (u8s (n k) (r k))) ∧ (P.info? (T k)).bind (·.zero) = some (.agg (u8s (n k) fun _ => 0)))
    (hdis : ∀ k, k < m → ∀ k', k' < m → A k ≠ Z k' ∧ (A k = A k' → k = k') ∧ (Z k = Z k' → k = k'))
    (hres : ∀ k, k < m → resB P ops a0.tmps.size (A k) (Z k) (X k) (pA k) (sx k) (n k) (T k) = true)
    (hC : ∀ i o c, ops[i]? = some o → C i = some c → ∀ a w2, Below w.heap.size w w2 →
      (∀ j oj cj s, ops[j]? = some oj → oj.dst = some s → C j = some cj → waits o j = true → decide (s < a0.tmps.size) = true → a.eval (.tmp s) = cj) →
      (∀ s v, noDst ops s = true → a0.tmps[s]? = some v → a.eval (.tmp s) = v) → o.wp P a w2 (fun a' w' => a' = a.put o.dst c ∧ Below w2.heap.size w2 w') Q)
    (hend : ∀ (vals : Nat → Value) w', Below w.heap.size w w' → (∀ i c, i < ops.length → C i = some c → vals i = c) → (∀ k, k < m → ∃ g, vals (A k) = .pointer (some ⟨g, 0, none⟩) ∧ w.heap.size ≤ g ∧ Blk w' g (u8s (n k) (r k)) (T k)) → (∀ k k', k < m → k' < m → k ≠ k' → vals (A k) ≠ vals (A k')) →
      Q .normal (putAll ops (List.replicate ops.length true) vals 0 a0) w') :
    (Code.region id ops.toArray true).wp P Q a0 w := by
  refine law_regionD hm hf hd (fun w' => Below w.heap.size w w') w.heap.size (fun _ _ h hb => below_step h hb) (fun _ _ _ h hg => below_setRow h hg _) (fun _ h => h.size) C m A Z X pA sx n r T ?_ ?_ ?_ ?_ ?_ (Below.refl _ _).drew ?_
  · intro i o ho
    exact hcls i (List.getElem?_eq_some_iff.1 ho).1
  · intro k hk
    exact ⟨(hA k hk).1, (hA k hk).2.1, hdis k hk⟩
  · intro k hk
    obtain ⟨⟨o, h1, h2, h3⟩, _, h4, _, _⟩ := resB_spec (hres k hk)
    exact ⟨o, h1, h2, h3, noGuard_spec hgd h1, (hA k hk).2.2.2, h4⟩
  · intro k hk
    obtain ⟨_, ⟨o, oX, h1, h2, h3, h4, h5, h6⟩, _, h7, h8⟩ := resB_spec (hres k hk)
    exact ⟨o, oX, h1, h2, noGuard_spec hgd h1, h3, h4, h5, h6, (hA k hk).2.2.1, h7, h8⟩
  · intro i o c ho hci a w2 hB hsz hrd hpar
    exact ⟨noGuard_spec hgd ho, hC i o c ho hci a w2 hB (fun j oj cj s h1 h2 h3 h4 h5 => eval_tmp (hrd j oj cj s h1 h2 h3 (waits_spec h4) (of_decide_eq_true h5))) (fun s v h1 h2 => eval_tmp ((hpar s (noDst_spec h1)).trans h2))⟩
  · intro vals w' hB hc hr hne ls hall hl
    have : ls = List.replicate ops.length true := by
      apply List.ext_getElem?
      intro i
      by_cases h : i < ops.length
      · rw [hall i h, List.getElem?_replicate, if_pos h]
      · rw [List.getElem?_eq_none (by omega), List.getElem?_eq_none (by simp; omega)]
    subst this
    exact hend vals w' hB hc hr hne
end
end Go.Proofs.Ytojkngdabejjdaa

/- Laws: polynomials' variables laid and written one after the other; the world behind them under one name. No program in sight. -/
namespace Go.Proofs.Ytojkngdabejjdaa
open Go.RowKit
theorem put_none' (a : Act) (v : Value) : a.put none v = a := rfl
theorem wanted_none {o : Oper} {y : Nat → Option Bool} (h : o.guard = none) : Region.wanted o y = true := by simp [Region.wanted, h]
section
variable {P : Program} {ops : Array Oper} {rest : List Oper} {a : Act} {w : World} {Q : Exit → Act → World → Prop}
/-- Tried by its name alone: is the goal a list of operations? -/
theorem wpl_guard (h : wpList P ops Q rest a w) : wpList P ops Q rest a w := h

theorem wpl_new1 {o1 s1 : Oper} (T : TypeId) (hz : (P.info? T).bind (·.zero) = some (.agg (u8s 64 fun _ => 0))) (hs : (P.info? T).map (·.size) = some 64)
    (x1 y1 : Operand) (hg1 : o1.guard = none) (hh1 : s1.guard = none) (ha1 : o1.op = .alloc T) (hb1 : s1.op = .store T x1 y1) (hd1 : s1.dst = none)
    (hx1 : (a.put o1.dst (.pointer (some ⟨w.heap.size, 0, none⟩))).eval x1 = .pointer (some ⟨w.heap.size, 0, none⟩)) (f1 : Nat → Int) (hy1 : (a.put o1.dst (.pointer (some ⟨w.heap.size, 0, none⟩))).eval y1 = .agg (u8s 64 f1))
    (h : ∀ w', Below w.heap.size w w' → Blk w' (w.heap.size) (u8s 64 f1) T → wpList P ops Q rest (a.put o1.dst (.pointer (some ⟨w.heap.size, 0, none⟩))) w') : wpList P ops Q (o1 :: s1 :: rest) a w := by
  refine wpl_alloc_arr (wanted_none hg1) T ha1 _ hz ?_
  have hB : Below w.heap.size w (w.alloc (.cells (u8s 64 fun _ => 0) T)) := below_new _ _
  have b1 : Blk (w.alloc (.cells (u8s 64 fun _ => 0) T)) (w.heap.size) (u8s 64 fun _ => 0) T := (Blk.newAt (by simp) (u8s 64 fun _ => 0) T : Blk (w.alloc (.cells (u8s 64 fun _ => 0) T)) (w.heap.size) _ _)
  clear hz
  generalize (w.alloc (.cells (u8s 64 fun _ => 0) T)) = u0 at *
  refine wpl_store_arr (wanted_none hh1) T x1 y1 hb1 (w.heap.size) (by first | exact hx1 | (simp only [hd1, put_none']; exact hx1)) _ (by first | exact hy1 | (simp only [hd1, put_none']; exact hy1)) _ T b1 (by rw [u8s_size]; exact hs) (by rw [u8s_size, u8s_size]) (u8s_oneCell _ _) ?_
  have hB1 := below_setRow hB (show w.heap.size ≤ (w.heap.size) by omega) (u8s 64 f1)
  replace b1 := b1.setRow_same (cs := u8s 64 f1)
  generalize World.setRow _ _ _ = u1 at *
  have := h _ hB1 b1
  simpa only [hd1, put_none'] using this

theorem wpl_new2 {o1 s1 : Oper} {o2 s2 : Oper} (T : TypeId) (hz : (P.info? T).bind (·.zero) = some (.agg (u8s 64 fun _ => 0))) (hs : (P.info? T).map (·.size) = some 64)
    (x1 y1 : Operand) (hg1 : o1.guard = none) (hh1 : s1.guard = none) (ha1 : o1.op = .alloc T) (hb1 : s1.op = .store T x1 y1) (hd1 : s1.dst = none) (x2 y2 : Operand) (hg2 : o2.guard = none) (hh2 : s2.guard = none) (ha2 : o2.op = .alloc T) (hb2 : s2.op = .store T x2 y2) (hd2 : s2.dst = none)
    (hx1 : ((a.put o1.dst (.pointer (some ⟨w.heap.size, 0, none⟩))).put o2.dst (.pointer (some ⟨w.heap.size + 1, 0, none⟩))).eval x1 = .pointer (some ⟨w.heap.size, 0, none⟩)) (f1 : Nat → Int) (hy1 : ((a.put o1.dst (.pointer (some ⟨w.heap.size, 0, none⟩))).put o2.dst (.pointer (some ⟨w.heap.size + 1, 0, none⟩))).eval y1 = .agg (u8s 64 f1)) (hx2 : ((a.put o1.dst (.pointer (some ⟨w.heap.size, 0, none⟩))).put o2.dst (.pointer (some ⟨w.heap.size + 1, 0, none⟩))).eval x2 = .pointer (some ⟨w.heap.size + 1, 0, none⟩)) (f2 : Nat → Int) (hy2 : ((a.put o1.dst (.pointer (some ⟨w.heap.size, 0, none⟩))).put o2.dst (.pointer (some ⟨w.heap.size + 1, 0, none⟩))).eval y2 = .agg (u8s 64 f2))
    (h : ∀ w', Below w.heap.size w w' → Blk w' (w.heap.size) (u8s 64 f1) T → Blk w' (w.heap.size + 1) (u8s 64 f2) T → wpList P ops Q rest ((a.put o1.dst (.pointer (some ⟨w.heap.size, 0, none⟩))).put o2.dst (.pointer (some ⟨w.heap.size + 1, 0, none⟩))) w') : wpList P ops Q (o1 :: o2 :: s1 :: s2 :: rest) a w := by
  refine wpl_alloc_arr (wanted_none hg1) T ha1 _ hz ?_
  refine wpl_alloc_arr (wanted_none hg2) T ha2 _ hz ?_
  rw [size_alloc]
  have hB : Below w.heap.size w ((w.alloc (.cells (u8s 64 fun _ => 0) T)).alloc (.cells (u8s 64 fun _ => 0) T)) := (below_new _ _).alloc (by simp) _
  have b1 : Blk ((w.alloc (.cells (u8s 64 fun _ => 0) T)).alloc (.cells (u8s 64 fun _ => 0) T)) (w.heap.size) (u8s 64 fun _ => 0) T := ((Blk.newAt (by simp) (u8s 64 fun _ => 0) T : Blk (w.alloc (.cells (u8s 64 fun _ => 0) T)) (w.heap.size) _ _).alloc _)
  have b2 : Blk ((w.alloc (.cells (u8s 64 fun _ => 0) T)).alloc (.cells (u8s 64 fun _ => 0) T)) (w.heap.size + 1) (u8s 64 fun _ => 0) T := (Blk.newAt (by simp) (u8s 64 fun _ => 0) T : Blk ((w.alloc (.cells (u8s 64 fun _ => 0) T)).alloc (.cells (u8s 64 fun _ => 0) T)) (w.heap.size + 1) _ _)
  clear hz
  generalize ((w.alloc (.cells (u8s 64 fun _ => 0) T)).alloc (.cells (u8s 64 fun _ => 0) T)) = u0 at *
  refine wpl_store_arr (wanted_none hh1) T x1 y1 hb1 (w.heap.size) (by first | exact hx1 | (simp only [hd1, hd2, put_none']; exact hx1)) _ (by first | exact hy1 | (simp only [hd1, hd2, put_none']; exact hy1)) _ T b1 (by rw [u8s_size]; exact hs) (by rw [u8s_size, u8s_size]) (u8s_oneCell _ _) ?_
  have hB1 := below_setRow hB (show w.heap.size ≤ (w.heap.size) by omega) (u8s 64 f1)
  replace b1 := b1.setRow_same (cs := u8s 64 f1)
  replace b2 := b2.setRow_other (g := (w.heap.size)) (cs := u8s 64 f1) (by omega)
  generalize World.setRow _ _ _ = u1 at *
  refine wpl_store_arr (wanted_none hh2) T x2 y2 hb2 (w.heap.size + 1) (by first | exact hx2 | (simp only [hd1, hd2, put_none']; exact hx2)) _ (by first | exact hy2 | (simp only [hd1, hd2, put_none']; exact hy2)) _ T b2 (by rw [u8s_size]; exact hs) (by rw [u8s_size, u8s_size]) (u8s_oneCell _ _) ?_
  have hB2 := below_setRow hB1 (show w.heap.size ≤ (w.heap.size + 1) by omega) (u8s 64 f2)
  replace b1 := b1.setRow_other (g := (w.heap.size + 1)) (cs := u8s 64 f2) (by omega)
  replace b2 := b2.setRow_same (cs := u8s 64 f2)
  generalize World.setRow _ _ _ = u2 at *
  have := h _ hB2 b1 b2
  simpa only [hd1, hd2, put_none'] using this

theorem wpl_new3 {o1 s1 : Oper} {o2 s2 : Oper} {o3 s3 : Oper} (T : TypeId) (hz : (P.info? T).bind (·.zero) = some (.agg (u8s 64 fun _ => 0))) (hs : (P.info? T).map (·.size) = some 64)
    (x1 y1 : Operand) (hg1 : o1.guard = none) (hh1 : s1.guard = none) (ha1 : o1.op = .alloc T) (hb1 : s1.op = .store T x1 y1) (hd1 : s1.dst = none) (x2 y2 : Operand) (hg2 : o2.guard = none) (hh2 : s2.guard = none) (ha2 : o2.op = .alloc T) (hb2 : s2.op = .store T x2 y2) (hd2 : s2.dst = none) (x3 y3 : Operand) (hg3 : o3.guard = none) (hh3 : s3.guard = none) (ha3 : o3.op = .alloc T) (hb3 : s3.op = .store T x3 y3) (hd3 : s3.dst = none)
    (hx1 : (((a.put o1.dst (.pointer (some ⟨w.heap.size, 0, none⟩))).put o2.dst (.pointer (some ⟨w.heap.size + 1, 0, none⟩))).put o3.dst (.pointer (some ⟨w.heap.size + 1 + 1, 0, none⟩))).eval x1 = .pointer (some ⟨w.heap.size, 0, none⟩)) (f1 : Nat → Int) (hy1 : (((a.put o1.dst (.pointer (some ⟨w.heap.size, 0, none⟩))).put o2.dst (.pointer (some ⟨w.heap.size + 1, 0, none⟩))).put o3.dst (.pointer (some ⟨w.heap.size + 1 + 1, 0, none⟩))).eval y1 = .agg (u8s 64 f1)) (hx2 : (((a.put o1.dst (.pointer (some ⟨w.heap.size, 0, none⟩))).put o2.dst (.pointer (some ⟨w.heap.size + 1, 0, none⟩))).put o3.dst (.pointer (some ⟨w.heap.size + 1 + 1, 0, none⟩))).eval x2 = .pointer (some ⟨w.heap.size + 1, 0, none⟩)) (f2 : Nat → Int) (hy2 : (((a.put o1.dst (.pointer (some ⟨w.heap.size, 0, none⟩))).put o2.dst (.pointer (some ⟨w.heap.size + 1, 0, none⟩))).put o3.dst (.pointer (some ⟨w.heap.size + 1 + 1, 0, none⟩))).eval y2 = .agg (u8s 64 f2)) (hx3 : (((a.put o1.dst (.pointer (some ⟨w.heap.size, 0, none⟩))).put o2.dst (.pointer (some ⟨w.heap.size + 1, 0, none⟩))).put o3.dst (.pointer (some ⟨w.heap.size + 1 + 1, 0, none⟩))).eval x3 = .pointer (some ⟨w.heap.size + 1 + 1, 0, none⟩)) (f3 : Nat → Int) (hy3 : (((a.put o1.dst (.pointer (some ⟨w.heap.size, 0, none⟩))).put o2.dst (.pointer (some ⟨w.heap.size + 1, 0, none⟩))).put o3.dst (.pointer (some ⟨w.heap.size + 1 + 1, 0, none⟩))).eval y3 = .agg (u8s 64 f3))
    (h : ∀ w', Below w.heap.size w w' → Blk w' (w.heap.size) (u8s 64 f1) T → Blk w' (w.heap.size + 1) (u8s 64 f2) T → Blk w' (w.heap.size + 1 + 1) (u8s 64 f3) T → wpList P ops Q rest (((a.put o1.dst (.pointer (some ⟨w.heap.size, 0, none⟩))).put o2.dst (.pointer (some ⟨w.heap.size + 1, 0, none⟩))).put o3.dst (.pointer (some ⟨w.heap.size + 1 + 1, 0, none⟩))) w') : wpList P ops Q (o1 :: o2 :: o3 :: s1 :: s2 :: s3 :: rest) a w := by
  refine wpl_alloc_arr (wanted_none hg1) T ha1 _ hz ?_
  refine wpl_alloc_arr (wanted_none hg2) T ha2 _ hz ?_
  rw [size_alloc]
  refine wpl_alloc_arr (wanted_none hg3) T ha3 _ hz ?_
  rw [size_alloc, size_alloc]
  have hB : Below w.heap.size w (((w.alloc (.cells (u8s 64 fun _ => 0) T)).alloc (.cells (u8s 64 fun _ => 0) T)).alloc (.cells (u8s 64 fun _ => 0) T)) := ((below_new _ _).alloc (by simp) _).alloc (by simp; omega) _
  have b1 : Blk (((w.alloc (.cells (u8s 64 fun _ => 0) T)).alloc (.cells (u8s 64 fun _ => 0) T)).alloc (.cells (u8s 64 fun _ => 0) T)) (w.heap.size) (u8s 64 fun _ => 0) T := (((Blk.newAt (by simp) (u8s 64 fun _ => 0) T : Blk (w.alloc (.cells (u8s 64 fun _ => 0) T)) (w.heap.size) _ _).alloc _).alloc _)
  have b2 : Blk (((w.alloc (.cells (u8s 64 fun _ => 0) T)).alloc (.cells (u8s 64 fun _ => 0) T)).alloc (.cells (u8s 64 fun _ => 0) T)) (w.heap.size + 1) (u8s 64 fun _ => 0) T := ((Blk.newAt (by simp) (u8s 64 fun _ => 0) T : Blk ((w.alloc (.cells (u8s 64 fun _ => 0) T)).alloc (.cells (u8s 64 fun _ => 0) T)) (w.heap.size + 1) _ _).alloc _)
  have b3 : Blk (((w.alloc (.cells (u8s 64 fun _ => 0) T)).alloc (.cells (u8s 64 fun _ => 0) T)).alloc (.cells (u8s 64 fun _ => 0) T)) (w.heap.size + 1 + 1) (u8s 64 fun _ => 0) T := (Blk.newAt (by simp) (u8s 64 fun _ => 0) T : Blk (((w.alloc (.cells (u8s 64 fun _ => 0) T)).alloc (.cells (u8s 64 fun _ => 0) T)).alloc (.cells (u8s 64 fun _ => 0) T)) (w.heap.size + 1 + 1) _ _)
  clear hz
  generalize (((w.alloc (.cells (u8s 64 fun _ => 0) T)).alloc (.cells (u8s 64 fun _ => 0) T)).alloc (.cells (u8s 64 fun _ => 0) T)) = u0 at *
  refine wpl_store_arr (wanted_none hh1) T x1 y1 hb1 (w.heap.size) (by first | exact hx1 | (simp only [hd1, hd2, hd3, put_none']; exact hx1)) _ (by first | exact hy1 | (simp only [hd1, hd2, hd3, put_none']; exact hy1)) _ T b1 (by rw [u8s_size]; exact hs) (by rw [u8s_size, u8s_size]) (u8s_oneCell _ _) ?_
  have hB1 := below_setRow hB (show w.heap.size ≤ (w.heap.size) by omega) (u8s 64 f1)
  replace b1 := b1.setRow_same (cs := u8s 64 f1)
  replace b2 := b2.setRow_other (g := (w.heap.size)) (cs := u8s 64 f1) (by omega)
  replace b3 := b3.setRow_other (g := (w.heap.size)) (cs := u8s 64 f1) (by omega)
  generalize World.setRow _ _ _ = u1 at *
  refine wpl_store_arr (wanted_none hh2) T x2 y2 hb2 (w.heap.size + 1) (by first | exact hx2 | (simp only [hd1, hd2, hd3, put_none']; exact hx2)) _ (by first | exact hy2 | (simp only [hd1, hd2, hd3, put_none']; exact hy2)) _ T b2 (by rw [u8s_size]; exact hs) (by rw [u8s_size, u8s_size]) (u8s_oneCell _ _) ?_
  have hB2 := below_setRow hB1 (show w.heap.size ≤ (w.heap.size + 1) by omega) (u8s 64 f2)
  replace b1 := b1.setRow_other (g := (w.heap.size + 1)) (cs := u8s 64 f2) (by omega)
  replace b2 := b2.setRow_same (cs := u8s 64 f2)
  replace b3 := b3.setRow_other (g := (w.heap.size + 1)) (cs := u8s 64 f2) (by omega)
  generalize World.setRow _ _ _ = u2 at *
  refine wpl_store_arr (wanted_none hh3) T x3 y3 hb3 (w.heap.size + 1 + 1) (by first | exact hx3 | (simp only [hd1, hd2, hd3, put_none']; exact hx3)) _ (by first | exact hy3 | (simp only [hd1, hd2, hd3, put_none']; exact hy3)) _ T b3 (by rw [u8s_size]; exact hs) (by rw [u8s_size, u8s_size]) (u8s_oneCell _ _) ?_
  have hB3 := below_setRow hB2 (show w.heap.size ≤ (w.heap.size + 1 + 1) by omega) (u8s 64 f3)
  replace b1 := b1.setRow_other (g := (w.heap.size + 1 + 1)) (cs := u8s 64 f3) (by omega)
  replace b2 := b2.setRow_other (g := (w.heap.size + 1 + 1)) (cs := u8s 64 f3) (by omega)
  replace b3 := b3.setRow_same (cs := u8s 64 f3)
  generalize World.setRow _ _ _ = u3 at *
  have := h _ hB3 b1 b2 b3
  simpa only [hd1, hd2, hd3, put_none'] using this

theorem wpl_new4 {o1 s1 : Oper} {o2 s2 : Oper} {o3 s3 : Oper} {o4 s4 : Oper} (T : TypeId) (hz : (P.info? T).bind (·.zero) = some (.agg (u8s 64 fun _ => 0))) (hs : (P.info? T).map (·.size) = some 64)
    (x1 y1 : Operand) (hg1 : o1.guard = none) (hh1 : s1.guard = none) (ha1 : o1.op = .alloc T) (hb1 : s1.op = .store T x1 y1) (hd1 : s1.dst = none) (x2 y2 : Operand) (hg2 : o2.guard = none) (hh2 : s2.guard = none) (ha2 : o2.op = .alloc T) (hb2 : s2.op = .store T x2 y2) (hd2 : s2.dst = none) (x3 y3 : Operand) (hg3 : o3.guard = none) (hh3 : s3.guard = none) (ha3 : o3.op = .alloc T) (hb3 : s3.op = .store T x3 y3) (hd3 : s3.dst = none) (x4 y4 : Operand) (hg4 : o4.guard = none) (hh4 : s4.guard = none) (ha4 : o4.op = .alloc T) (hb4 : s4.op = .store T x4 y4) (hd4 : s4.dst = none)
    (hx1 : ((((a.put o1.dst (.pointer (some ⟨w.heap.size, 0, none⟩))).put o2.dst (.pointer (some ⟨w.heap.size + 1, 0, none⟩))).put o3.dst (.pointer (some ⟨w.heap.size + 1 + 1, 0, none⟩))).put o4.dst (.pointer (some ⟨w.heap.size + 1 + 1 + 1, 0, none⟩))).eval x1 = .pointer (some ⟨w.heap.size, 0, none⟩)) (f1 : Nat → Int) (hy1 : ((((a.put o1.dst (.pointer (some ⟨w.heap.size, 0, none⟩))).put o2.dst (.pointer (some ⟨w.heap.size + 1, 0, none⟩))).put o3.dst (.pointer (some ⟨w.heap.size + 1 + 1, 0, none⟩))).put o4.dst (.pointer (some ⟨w.heap.size + 1 + 1 + 1, 0, none⟩))).eval y1 = .agg (u8s 64 f1)) (hx2 : ((((a.put o1.dst (.pointer (some ⟨w.heap.size, 0, none⟩))).put o2.dst (.pointer (some ⟨w.heap.size + 1, 0, none⟩))).put o3.dst (.pointer (some ⟨w.heap.size + 1 + 1, 0, none⟩))).put o4.dst (.pointer (some ⟨w.heap.size + 1 + 1 + 1, 0, none⟩))).eval x2 = .pointer (some ⟨w.heap.size + 1, 0, none⟩)) (f2 : Nat → Int) (hy2 : ((((a.put o1.dst (.pointer (some ⟨w.heap.size, 0, none⟩))).put o2.dst (.pointer (some ⟨w.heap.size + 1, 0, none⟩))).put o3.dst (.pointer (some ⟨w.heap.size + 1 + 1, 0, none⟩))).put o4.dst (.pointer (some ⟨w.heap.size + 1 + 1 + 1, 0, none⟩))).eval y2 = .agg (u8s 64 f2)) (hx3 : ((((a.put o1.dst (.pointer (some ⟨w.heap.size, 0, none⟩))).put o2.dst (.pointer (some ⟨w.heap.size + 1, 0, none⟩))).put o3.dst (.pointer (some ⟨w.heap.size + 1 + 1, 0, none⟩))).put o4.dst (.pointer (some ⟨w.heap.size + 1 + 1 + 1, 0, none⟩))).eval x3 = .pointer (some ⟨w.heap.size + 1 + 1, 0, none⟩)) (f3 : Nat → Int) (hy3 : ((((a.put o1.dst (.pointer (some ⟨w.heap.size, 0, none⟩))).put o2.dst (.pointer (some ⟨w.heap.size + 1, 0, none⟩))).put o3.dst (.pointer (some ⟨w.heap.size + 1 + 1, 0, none⟩))).put o4.dst (.pointer (some ⟨w.heap.size + 1 + 1 + 1, 0, none⟩))).eval y3 = .agg (u8s 64 f3)) (hx4 : ((((a.put o1.dst (.pointer (some ⟨w.heap.size, 0, none⟩))).put o2.dst (.pointer (some ⟨w.heap.size + 1, 0, none⟩))).put o3.dst (.pointer (some ⟨w.heap.size + 1 + 1, 0, none⟩))).put o4.dst (.pointer (some ⟨w.heap.size + 1 + 1 + 1, 0, none⟩))).eval x4 = .pointer (some ⟨w.heap.size + 1 + 1 + 1, 0, none⟩)) (f4 : Nat → Int) (hy4 : ((((a.put o1.dst (.pointer (some ⟨w.heap.size, 0, none⟩))).put o2.dst (.pointer (some ⟨w.heap.size + 1, 0, none⟩))).put o3.dst (.pointer (some ⟨w.heap.size + 1 + 1, 0, none⟩))).put o4.dst (.pointer (some ⟨w.heap.size + 1 + 1 + 1, 0, none⟩))).eval y4 = .agg (u8s 64 f4))
    (h : ∀ w', Below w.heap.size w w' → Blk w' (w.heap.size) (u8s 64 f1) T → Blk w' (w.heap.size + 1) (u8s 64 f2) T → Blk w' (w.heap.size + 1 + 1) (u8s 64 f3) T → Blk w' (w.heap.size + 1 + 1 + 1) (u8s 64 f4) T → wpList P ops Q rest ((((a.put o1.dst (.pointer (some ⟨w.heap.size, 0, none⟩))).put o2.dst (.pointer (some ⟨w.heap.size + 1, 0, none⟩))).put o3.dst (.pointer (some ⟨w.heap.size + 1 + 1, 0, none⟩))).put o4.dst (.pointer (some ⟨w.heap.size + 1 + 1 + 1, 0, none⟩))) w') : wpList P ops Q (o1 :: o2 :: o3 :: o4 :: s1 :: s2 :: s3 :: s4 :: rest) a w := by
  refine wpl_alloc_arr (wanted_none hg1) T ha1 _ hz ?_
  refine wpl_alloc_arr (wanted_none hg2) T ha2 _ hz ?_
  rw [size_alloc]
  refine wpl_alloc_arr (wanted_none hg3) T ha3 _ hz ?_
  rw [size_alloc, size_alloc]
  refine wpl_alloc_arr (wanted_none hg4) T ha4 _ hz ?_
  rw [size_alloc, size_alloc, size_alloc]
  have hB : Below w.heap.size w ((((w.alloc (.cells (u8s 64 fun _ => 0) T)).alloc (.cells (u8s 64 fun _ => 0) T)).alloc (.cells (u8s 64 fun _ => 0) T)).alloc (.cells (u8s 64 fun _ => 0) T)) := (((below_new _ _).alloc (by simp) _).alloc (by simp; omega) _).alloc (by simp; omega) _
  have b1 : Blk ((((w.alloc (.cells (u8s 64 fun _ => 0) T)).alloc (.cells (u8s 64 fun _ => 0) T)).alloc (.cells (u8s 64 fun _ => 0) T)).alloc (.cells (u8s 64 fun _ => 0) T)) (w.heap.size) (u8s 64 fun _ => 0) T := ((((Blk.newAt (by simp) (u8s 64 fun _ => 0) T : Blk (w.alloc (.cells (u8s 64 fun _ => 0) T)) (w.heap.size) _ _).alloc _).alloc _).alloc _)
  have b2 : Blk ((((w.alloc (.cells (u8s 64 fun _ => 0) T)).alloc (.cells (u8s 64 fun _ => 0) T)).alloc (.cells (u8s 64 fun _ => 0) T)).alloc (.cells (u8s 64 fun _ => 0) T)) (w.heap.size + 1) (u8s 64 fun _ => 0) T := (((Blk.newAt (by simp) (u8s 64 fun _ => 0) T : Blk ((w.alloc (.cells (u8s 64 fun _ => 0) T)).alloc (.cells (u8s 64 fun _ => 0) T)) (w.heap.size + 1) _ _).alloc _).alloc _)
  have b3 : Blk ((((w.alloc (.cells (u8s 64 fun _ => 0) T)).alloc (.cells (u8s 64 fun _ => 0) T)).alloc (.cells (u8s 64 fun _ => 0) T)).alloc (.cells (u8s 64 fun _ => 0) T)) (w.heap.size + 1 + 1) (u8s 64 fun _ => 0) T := ((Blk.newAt (by simp) (u8s 64 fun _ => 0) T : Blk (((w.alloc (.cells (u8s 64 fun _ => 0) T)).alloc (.cells (u8s 64 fun _ => 0) T)).alloc (.cells (u8s 64 fun _ => 0) T)) (w.heap.size + 1 + 1) _ _).alloc _)
  have b4 : Blk ((((w.alloc (.cells (u8s 64 fun _ => 0) T)).alloc (.cells (u8s 64 fun _ => 0) T)).alloc (.cells (u8s 64 fun _ => 0) T)).alloc (.cells (u8s 64 fun _ => 0) T)) (w.heap.size + 1 + 1 + 1) (u8s 64 fun _ => 0) T := (Blk.newAt (by simp) (u8s 64 fun _ => 0) T : Blk ((((w.alloc (.cells (u8s 64 fun _ => 0) T)).alloc (.cells (u8s 64 fun _ => 0) T)).alloc (.cells (u8s 64 fun _ => 0) T)).alloc (.cells (u8s 64 fun _ => 0) T)) (w.heap.size + 1 + 1 + 1) _ _)
  clear hz
  generalize ((((w.alloc (.cells (u8s 64 fun _ => 0) T)).alloc (.cells (u8s 64 fun _ => 0) T)).alloc (.cells (u8s 64 fun _ => 0) T)).alloc (.cells (u8s 64 fun _ => 0) T)) = u0 at *
  refine wpl_store_arr (wanted_none hh1) T x1 y1 hb1 (w.heap.size) (by first | exact hx1 | (simp only [hd1, hd2, hd3, hd4, put_none']; exact hx1)) _ (by first | exact hy1 | (simp only [hd1, hd2, hd3, hd4, put_none']; exact hy1)) _ T b1 (by rw [u8s_size]; exact hs) (by rw [u8s_size, u8s_size]) (u8s_oneCell _ _) ?_
  have hB1 := below_setRow hB (show w.heap.size ≤ (w.heap.size) by omega) (u8s 64 f1)
  replace b1 := b1.setRow_same (cs := u8s 64 f1)
  replace b2 := b2.setRow_other (g := (w.heap.size)) (cs := u8s 64 f1) (by omega)
  replace b3 := b3.setRow_other (g := (w.heap.size)) (cs := u8s 64 f1) (by omega)
  replace b4 := b4.setRow_other (g := (w.heap.size)) (cs := u8s 64 f1) (by omega)
  generalize World.setRow _ _ _ = u1 at *
  refine wpl_store_arr (wanted_none hh2) T x2 y2 hb2 (w.heap.size + 1) (by first | exact hx2 | (simp only [hd1, hd2, hd3, hd4, put_none']; exact hx2)) _ (by first | exact hy2 | (simp only [hd1, hd2, hd3, hd4, put_none']; exact hy2)) _ T b2 (by rw [u8s_size]; exact hs) (by rw [u8s_size, u8s_size]) (u8s_oneCell _ _) ?_
  have hB2 := below_setRow hB1 (show w.heap.size ≤ (w.heap.size + 1) by omega) (u8s 64 f2)
  replace b1 := b1.setRow_other (g := (w.heap.size + 1)) (cs := u8s 64 f2) (by omega)
  replace b2 := b2.setRow_same (cs := u8s 64 f2)
  replace b3 := b3.setRow_other (g := (w.heap.size + 1)) (cs := u8s 64 f2) (by omega)
  replace b4 := b4.setRow_other (g := (w.heap.size + 1)) (cs := u8s 64 f2) (by omega)
  generalize World.setRow _ _ _ = u2 at *
  refine wpl_store_arr (wanted_none hh3) T x3 y3 hb3 (w.heap.size + 1 + 1) (by first | exact hx3 | (simp only [hd1, hd2, hd3, hd4, put_none']; exact hx3)) _ (by first | exact hy3 | (simp only [hd1, hd2, hd3, hd4, put_none']; exact hy3)) _ T b3 (by rw [u8s_size]; exact hs) (by rw [u8s_size, u8s_size]) (u8s_oneCell _ _) ?_
  have hB3 := below_setRow hB2 (show w.heap.size ≤ (w.heap.size + 1 + 1) by omega) (u8s 64 f3)
  replace b1 := b1.setRow_other (g := (w.heap.size + 1 + 1)) (cs := u8s 64 f3) (by omega)
  replace b2 := b2.setRow_other (g := (w.heap.size + 1 + 1)) (cs := u8s 64 f3) (by omega)
  replace b3 := b3.setRow_same (cs := u8s 64 f3)
  replace b4 := b4.setRow_other (g := (w.heap.size + 1 + 1)) (cs := u8s 64 f3) (by omega)
  generalize World.setRow _ _ _ = u3 at *
  refine wpl_store_arr (wanted_none hh4) T x4 y4 hb4 (w.heap.size + 1 + 1 + 1) (by first | exact hx4 | (simp only [hd1, hd2, hd3, hd4, put_none']; exact hx4)) _ (by first | exact hy4 | (simp only [hd1, hd2, hd3, hd4, put_none']; exact hy4)) _ T b4 (by rw [u8s_size]; exact hs) (by rw [u8s_size, u8s_size]) (u8s_oneCell _ _) ?_
  have hB4 := below_setRow hB3 (show w.heap.size ≤ (w.heap.size + 1 + 1 + 1) by omega) (u8s 64 f4)
  replace b1 := b1.setRow_other (g := (w.heap.size + 1 + 1 + 1)) (cs := u8s 64 f4) (by omega)
  replace b2 := b2.setRow_other (g := (w.heap.size + 1 + 1 + 1)) (cs := u8s 64 f4) (by omega)
  replace b3 := b3.setRow_other (g := (w.heap.size + 1 + 1 + 1)) (cs := u8s 64 f4) (by omega)
  replace b4 := b4.setRow_same (cs := u8s 64 f4)
  generalize World.setRow _ _ _ = u4 at *
  have := h _ hB4 b1 b2 b3 b4
  simpa only [hd1, hd2, hd3, hd4, put_none'] using this

theorem wpl_sto1 {s1 : Oper} (T : TypeId) (hs : (P.info? T).map (·.size) = some 64)
    (x1 y1 : Operand) (hh1 : s1.guard = none) (hb1 : s1.op = .store T x1 y1) (hd1 : s1.dst = none) (g1 : Nat) (hx1 : a.eval x1 = .pointer (some ⟨g1, 0, none⟩)) (f1 : Nat → Int) (hy1 : a.eval y1 = .agg (u8s 64 f1)) (r1 : Nat → Int) (b1 : Blk w g1 (u8s 64 r1) T)
    (h : ∀ w', Blk w' g1 (u8s 64 f1) T → (∀ k cs t, k ≠ g1 → Blk w k cs t → Blk w' k cs t) → (∀ B u, Below B u w → B ≤ g1 → Below B u w') → wpList P ops Q rest a w') : wpList P ops Q (s1 :: rest) a w := by
  refine wpl_store_arr (wanted_none hh1) T x1 y1 hb1 g1 (by first | exact hx1 | (simp only [hd1, put_none']; exact hx1)) _ (by first | exact hy1 | (simp only [hd1, put_none']; exact hy1)) _ T b1 (by rw [u8s_size]; exact hs) (by rw [u8s_size, u8s_size]) (u8s_oneCell _ _) ?_
  have c1 := b1.setRow_same (cs := u8s 64 f1)
  have := h _ c1 (fun k cs t q1 hb => hb.setRow_other q1) (fun B u hb q1 => below_setRow (hb) q1 _)
  simpa only [hd1, put_none'] using this

theorem wpl_sto2 {s1 : Oper} {s2 : Oper} (T : TypeId) (hs : (P.info? T).map (·.size) = some 64)
    (x1 y1 : Operand) (hh1 : s1.guard = none) (hb1 : s1.op = .store T x1 y1) (hd1 : s1.dst = none) (g1 : Nat) (hx1 : a.eval x1 = .pointer (some ⟨g1, 0, none⟩)) (f1 : Nat → Int) (hy1 : a.eval y1 = .agg (u8s 64 f1)) (r1 : Nat → Int) (b1 : Blk w g1 (u8s 64 r1) T) (x2 y2 : Operand) (hh2 : s2.guard = none) (hb2 : s2.op = .store T x2 y2) (hd2 : s2.dst = none) (g2 : Nat) (hx2 : a.eval x2 = .pointer (some ⟨g2, 0, none⟩)) (f2 : Nat → Int) (hy2 : a.eval y2 = .agg (u8s 64 f2)) (r2 : Nat → Int) (b2 : Blk w g2 (u8s 64 r2) T)
    (hne12 : g1 ≠ g2)
    (h : ∀ w', Blk w' g1 (u8s 64 f1) T → Blk w' g2 (u8s 64 f2) T → (∀ k cs t, k ≠ g1 → k ≠ g2 → Blk w k cs t → Blk w' k cs t) → (∀ B u, Below B u w → B ≤ g1 → B ≤ g2 → Below B u w') → wpList P ops Q rest a w') : wpList P ops Q (s1 :: s2 :: rest) a w := by
  refine wpl_store_arr (wanted_none hh1) T x1 y1 hb1 g1 (by first | exact hx1 | (simp only [hd1, hd2, put_none']; exact hx1)) _ (by first | exact hy1 | (simp only [hd1, hd2, put_none']; exact hy1)) _ T b1 (by rw [u8s_size]; exact hs) (by rw [u8s_size, u8s_size]) (u8s_oneCell _ _) ?_
  have c1 := b1.setRow_same (cs := u8s 64 f1)
  replace b2 := b2.setRow_other (g := g1) (cs := u8s 64 f1) (Ne.symm hne12)
  refine wpl_store_arr (wanted_none hh2) T x2 y2 hb2 g2 (by first | exact hx2 | (simp only [hd1, hd2, put_none']; exact hx2)) _ (by first | exact hy2 | (simp only [hd1, hd2, put_none']; exact hy2)) _ T b2 (by rw [u8s_size]; exact hs) (by rw [u8s_size, u8s_size]) (u8s_oneCell _ _) ?_
  replace c1 := c1.setRow_other (g := g2) (cs := u8s 64 f2) hne12
  have c2 := b2.setRow_same (cs := u8s 64 f2)
  have := h _ c1 c2 (fun k cs t q1 q2 hb => (hb.setRow_other q1).setRow_other q2) (fun B u hb q1 q2 => below_setRow (below_setRow (hb) q1 _) q2 _)
  simpa only [hd1, hd2, put_none'] using this

theorem wpl_sto3 {s1 : Oper} {s2 : Oper} {s3 : Oper} (T : TypeId) (hs : (P.info? T).map (·.size) = some 64)
    (x1 y1 : Operand) (hh1 : s1.guard = none) (hb1 : s1.op = .store T x1 y1) (hd1 : s1.dst = none) (g1 : Nat) (hx1 : a.eval x1 = .pointer (some ⟨g1, 0, none⟩)) (f1 : Nat → Int) (hy1 : a.eval y1 = .agg (u8s 64 f1)) (r1 : Nat → Int) (b1 : Blk w g1 (u8s 64 r1) T) (x2 y2 : Operand) (hh2 : s2.guard = none) (hb2 : s2.op = .store T x2 y2) (hd2 : s2.dst = none) (g2 : Nat) (hx2 : a.eval x2 = .pointer (some ⟨g2, 0, none⟩)) (f2 : Nat → Int) (hy2 : a.eval y2 = .agg (u8s 64 f2)) (r2 : Nat → Int) (b2 : Blk w g2 (u8s 64 r2) T) (x3 y3 : Operand) (hh3 : s3.guard = none) (hb3 : s3.op = .store T x3 y3) (hd3 : s3.dst = none) (g3 : Nat) (hx3 : a.eval x3 = .pointer (some ⟨g3, 0, none⟩)) (f3 : Nat → Int) (hy3 : a.eval y3 = .agg (u8s 64 f3)) (r3 : Nat → Int) (b3 : Blk w g3 (u8s 64 r3) T)
    (hne12 : g1 ≠ g2) (hne13 : g1 ≠ g3) (hne23 : g2 ≠ g3)
    (h : ∀ w', Blk w' g1 (u8s 64 f1) T → Blk w' g2 (u8s 64 f2) T → Blk w' g3 (u8s 64 f3) T → (∀ k cs t, k ≠ g1 → k ≠ g2 → k ≠ g3 → Blk w k cs t → Blk w' k cs t) → (∀ B u, Below B u w → B ≤ g1 → B ≤ g2 → B ≤ g3 → Below B u w') → wpList P ops Q rest a w') : wpList P ops Q (s1 :: s2 :: s3 :: rest) a w := by
  refine wpl_store_arr (wanted_none hh1) T x1 y1 hb1 g1 (by first | exact hx1 | (simp only [hd1, hd2, hd3, put_none']; exact hx1)) _ (by first | exact hy1 | (simp only [hd1, hd2, hd3, put_none']; exact hy1)) _ T b1 (by rw [u8s_size]; exact hs) (by rw [u8s_size, u8s_size]) (u8s_oneCell _ _) ?_
  have c1 := b1.setRow_same (cs := u8s 64 f1)
  replace b2 := b2.setRow_other (g := g1) (cs := u8s 64 f1) (Ne.symm hne12)
  replace b3 := b3.setRow_other (g := g1) (cs := u8s 64 f1) (Ne.symm hne13)
  refine wpl_store_arr (wanted_none hh2) T x2 y2 hb2 g2 (by first | exact hx2 | (simp only [hd1, hd2, hd3, put_none']; exact hx2)) _ (by first | exact hy2 | (simp only [hd1, hd2, hd3, put_none']; exact hy2)) _ T b2 (by rw [u8s_size]; exact hs) (by rw [u8s_size, u8s_size]) (u8s_oneCell _ _) ?_
  replace c1 := c1.setRow_other (g := g2) (cs := u8s 64 f2) hne12
  have c2 := b2.setRow_same (cs := u8s 64 f2)
  replace b3 := b3.setRow_other (g := g2) (cs := u8s 64 f2) (Ne.symm hne23)
  refine wpl_store_arr (wanted_none hh3) T x3 y3 hb3 g3 (by first | exact hx3 | (simp only [hd1, hd2, hd3, put_none']; exact hx3)) _ (by first | exact hy3 | (simp only [hd1, hd2, hd3, put_none']; exact hy3)) _ T b3 (by rw [u8s_size]; exact hs) (by rw [u8s_size, u8s_size]) (u8s_oneCell _ _) ?_
  replace c1 := c1.setRow_other (g := g3) (cs := u8s 64 f3) hne13
  replace c2 := c2.setRow_other (g := g3) (cs := u8s 64 f3) hne23
  have c3 := b3.setRow_same (cs := u8s 64 f3)
  have := h _ c1 c2 c3 (fun k cs t q1 q2 q3 hb => ((hb.setRow_other q1).setRow_other q2).setRow_other q3) (fun B u hb q1 q2 q3 => below_setRow (below_setRow (below_setRow (hb) q1 _) q2 _) q3 _)
  simpa only [hd1, hd2, hd3, put_none'] using this

/-- A variable is written with what another one holds: a whole region. -/
theorem wp_copy {id : Nat} {o1 o2 : Oper} {s : Nat} (T : TypeId) (hg1 : o1.guard = none) (hg2 : o2.guard = none) (x y : Operand) (h1 : o1.op = .load T x) (h2 : o2.op = .store T y (.tmp s)) (hd1 : o1.dst = some s) (hd2 : o2.dst = none)
    {gx gy tx e : Nat} {f r : Nat → Int} (hbx : Blk w gx (u8s 64 f) tx) (hby : Blk w gy (u8s 64 r) T) (hx : a.eval x = .pointer (some ⟨gx, 0, none⟩)) (hy : (a.put (some s) (.agg (u8s 64 f))).eval y = .pointer (some ⟨gy, 0, none⟩)) (hsl : decide (s < a.tmps.size) = true)
    (hu : P.underlying T = some (.array 64 e)) (hs : (P.info? T).map (·.size) = some 64)
    (h : ∀ w', Blk w' gy (u8s 64 f) T → (∀ k cs t, k ≠ gy → Blk w k cs t → Blk w' k cs t) → (∀ B u, Below B u w → B ≤ gy → Below B u w') → Q .normal (a.put (some s) (.agg (u8s 64 f))) w') : (Code.region id #[o1, o2] false).wp P Q a w := by
  refine wp_region_lit (l := [o1, o2]) ?_
  refine wpl_load_arr (wanted_none hg1) T x h1 gx hx _ _ hbx _ _ hu (by rw [u8s_size]; exact hs) ?_
  rw [hd1]
  have hv : (a.put (some s) (.agg (u8s 64 f))).eval (.tmp s) = .agg (u8s 64 f) := by
    have := put_get_same a (.agg (u8s 64 f)) s (of_decide_eq_true hsl)
    simp [Act.eval, this]
  exact wpl_sto1 T hs y (.tmp s) hg2 h2 hd2 gy hy f hv r hby fun w' k1 k2 k3 => h w' k1 k2 k3

end
section
variable {P : Program} {fn : Func} {tmps : Array Value} {w : World}
theorem res_ccct {p p2 p3 u : Tmp} {ty ty2 ty3 n e n2 e2 n3 e3 : TypeId} (h : fn.results = #[.cell p ty, .cell p2 ty2, .cell p3 ty3, .tmp u]) {g t g2 t2 g3 t3 : Nat} {cs cs2 cs3 : Array Value} (hp : tmps.getD p undef = .pointer (some ⟨g, 0, none⟩)) (hb : Blk w g cs t)
    (hu : P.underlying ty = some (.array n e)) (hi : (P.info? ty).map (·.size) = some cs.size) (hp2 : tmps.getD p2 undef = .pointer (some ⟨g2, 0, none⟩)) (hb2 : Blk w g2 cs2 t2)
    (hu2 : P.underlying ty2 = some (.array n2 e2)) (hi2 : (P.info? ty2).map (·.size) = some cs2.size) (hp3 : tmps.getD p3 undef = .pointer (some ⟨g3, 0, none⟩)) (hb3 : Blk w g3 cs3 t3)
    (hu3 : P.underlying ty3 = some (.array n3 e3)) (hi3 : (P.info? ty3).map (·.size) = some cs3.size) {x : Value} (hx : tmps.getD u undef = x) : (results fn tmps).run P w = .ok (.tuple #[.agg cs, .agg cs2, .agg cs3, x]) w := by
  have hp' : tmps[p]?.getD undef = .pointer (some ⟨g, 0, none⟩) := by simpa using hp
  have hp2' : tmps[p2]?.getD undef = .pointer (some ⟨g2, 0, none⟩) := by simpa using hp2
  have hp3' : tmps[p3]?.getD undef = .pointer (some ⟨g3, 0, none⟩) := by simpa using hp3
  have hx' : tmps[u]?.getD undef = x := by simpa using hx
  simp [results, h, hp', hp2', hp3', hx', asAddr, run_loadVar_row w g t ty cs _ _ hb hu rfl hi, run_loadVar_row w g2 t2 ty2 cs2 _ _ hb2 hu2 rfl hi2, run_loadVar_row w g3 t3 ty3 cs3 _ _ hb3 hu3 rfl hi3]
theorem res_ccc {p p2 p3 : Tmp} {ty ty2 ty3 n e n2 e2 n3 e3 : TypeId} (h : fn.results = #[.cell p ty, .cell p2 ty2, .cell p3 ty3]) {g t g2 t2 g3 t3 : Nat} {cs cs2 cs3 : Array Value} (hp : tmps.getD p undef = .pointer (some ⟨g, 0, none⟩)) (hb : Blk w g cs t)
    (hu : P.underlying ty = some (.array n e)) (hi : (P.info? ty).map (·.size) = some cs.size) (hp2 : tmps.getD p2 undef = .pointer (some ⟨g2, 0, none⟩)) (hb2 : Blk w g2 cs2 t2)
    (hu2 : P.underlying ty2 = some (.array n2 e2)) (hi2 : (P.info? ty2).map (·.size) = some cs2.size) (hp3 : tmps.getD p3 undef = .pointer (some ⟨g3, 0, none⟩)) (hb3 : Blk w g3 cs3 t3)
    (hu3 : P.underlying ty3 = some (.array n3 e3)) (hi3 : (P.info? ty3).map (·.size) = some cs3.size) : (results fn tmps).run P w = .ok (.tuple #[.agg cs, .agg cs2, .agg cs3]) w := by
  have hp' : tmps[p]?.getD undef = .pointer (some ⟨g, 0, none⟩) := by simpa using hp
  have hp2' : tmps[p2]?.getD undef = .pointer (some ⟨g2, 0, none⟩) := by simpa using hp2
  have hp3' : tmps[p3]?.getD undef = .pointer (some ⟨g3, 0, none⟩) := by simpa using hp3
  simp [results, h, hp', hp2', hp3', asAddr, run_loadVar_row w g t ty cs _ _ hb hu rfl hi, run_loadVar_row w g2 t2 ty2 cs2 _ _ hb2 hu2 rfl hi2, run_loadVar_row w g3 t3 ty3 cs3 _ _ hb3 hu3 rfl hi3]
end
end Go.Proofs.Ytojkngdabejjdaa

/- A region that draws its order, by an invariant over the set of operations that have come up: one proof for each operation, whatever the order. No program in sight. -/
import Derived.Test.YthkkicanockhgaaTail
namespace Go.Proofs.Ythkkicanockhgaa
open Go.RowKit

/-- How many have not come up. -/
def unl : List Bool → Nat
  | [] => 0
  | b :: l => (if b then 0 else 1) + unl l
theorem unl_set : ∀ (l : List Bool) (i : Nat), l[i]? = some false → unl (l.set i true) + 1 = unl l
  | [], i, h => by simp at h
  | b :: l, 0, h => by
    have : b = false := by simpa using h
    subst this
    simp [unl]; omega
  | b :: l, i + 1, h => by
    have := unl_set l i (by simpa using h)
    simp only [List.set_cons_succ, unl]; omega
theorem unl_len : ∀ (n : Nat), unl (List.replicate n false) = n
  | 0 => rfl
  | n + 1 => by rw [List.replicate_succ]; simp [unl, unl_len n]; omega

/-- Each operation waits for earlier ones alone. -/
def fwdB (ops : List Oper) : Bool := ops.zipIdx.all fun x => x.1.after.all fun e => !Region.binds .any e || decide (e.on < x.2)
theorem fwdB_spec {ops : List Oper} (h : fwdB ops = true) {i : Nat} {o : Oper} (ho : ops[i]? = some o) : ∀ e ∈ o.after, Region.binds .any e = true → e.on < i := by
  intro e he hb
  have h1 := List.all_eq_true.1 h (o, i) (List.mem_zipIdx_iff_getElem?.2 ho)
  have h2 := Array.all_eq_true_iff_forall_mem.1 h1 e he
  simpa [hb] using h2

section
variable {P : Program} {Q : Exit → Act → World → Prop}

theorem getD_some {l : List Bool} {i : Nat} {d : Bool} : l.toArray.getD i d = (l[i]?).getD d := by
  simp [Array.getD_eq_getD_getElem?]
theorem ready_step {ops : List Oper} {ls : List Bool} (hl : ls.length = ops.length) {i : Nat} (h : i ∈ Region.ready .any ops.toArray ls.toArray) :
    ls[i]? = some false ∧ ∃ o, ops[i]? = some o ∧ ∀ e ∈ o.after, Region.binds .any e = true → ls[e.on]? = some true := by
  obtain ⟨h1, o, h2, h3⟩ := mem_ready.1 h
  rw [getD_some] at h1
  refine ⟨?_, o, by simpa using h2, fun e he hb => ?_⟩
  · cases hq : ls[i]? with
    | none => rw [hq] at h1; cases h1
    | some b => rw [hq] at h1; simp at h1; rw [h1]
  · have h4 := h3 e he hb
    rw [getD_some] at h4
    cases hq : ls[e.on]? with
    | none => rw [hq] at h4; cases h4
    | some b => rw [hq] at h4; simp at h4; rw [h4]
theorem ready_nil {ops : List Oper} (hf : fwdB ops = true) {ls : List Bool} (hl : ls.length = ops.length) (h : Region.ready .any ops.toArray ls.toArray = []) : ∀ i, i < ops.length → ls[i]? = some true := by
  intro i
  induction i using Nat.strongRecOn with
  | _ i ih =>
    intro hi
    refine Classical.byContradiction fun hn => ?_
    have hb : ls[i]? = some false := by
      rw [List.getElem?_eq_getElem (by omega)] at hn ⊢
      cases hq : ls[i] with
      | false => rfl
      | true => rw [hq] at hn; exact absurd rfl hn
    have : i ∈ Region.ready .any ops.toArray ls.toArray := by
      refine mem_ready.2 ⟨by rw [getD_some, hb]; rfl, ops[i], by simp [hi], fun e he hbd => ?_⟩
      have hlt := fwdB_spec hf (List.getElem?_eq_getElem hi) e he hbd
      rw [getD_some, ih e.on hlt (by omega)]; rfl
    rw [h] at this
    cases this

/-- Whatever order is picked, by an invariant. -/
theorem wpAny_inv {ops : List Oper} (hf : fwdB ops = true) (Inv : List Bool → Act → World → Prop)
    (hstep : ∀ i o, ops[i]? = some o → ∀ ls a w, ls.length = ops.length → ls[i]? = some false → (∀ e ∈ o.after, Region.binds .any e = true → ls[e.on]? = some true) → Inv ls a w →
      wpOp P ops.toArray Q i (Inv (ls.set i true)) a w)
    (hend : ∀ ls a w, ls.length = ops.length → (∀ i, i < ops.length → ls[i]? = some true) → Inv ls a w → Q .normal a w) :
    ∀ (fuel : Nat) (ls : List Bool) (a : Act) (w : World), ls.length = ops.length → unl ls ≤ fuel → Inv ls a w → wpAny P .any ops.toArray Q fuel ls.toArray a w
  | 0, ls, a, w, hl, hu, h => by
    have hr : Region.ready .any ops.toArray ls.toArray = [] := by
      cases hq : Region.ready .any ops.toArray ls.toArray with
      | nil => rfl
      | cons i r =>
        have h1 := (ready_step hl (i := i) (by rw [hq]; simp)).1
        have := unl_set ls i h1
        omega
    exact ⟨hr, hend ls a w hl (ready_nil hf hl hr) h⟩
  | fuel + 1, ls, a, w, hl, hu, h => by
    refine ⟨fun hr => hend ls a w hl (ready_nil hf hl hr) h, fun i hi => ?_⟩
    obtain ⟨h1, o, h2, h3⟩ := ready_step hl hi
    refine wpOp_mono (fun a' w' h' => ?_) (hstep i o h2 ls a w hl h1 h3 h)
    have hs := unl_set ls i h1
    have := wpAny_inv hf Inv hstep hend fuel (ls.set i true) a' w' (by rw [List.length_set]; exact hl) (by omega) h'
    simpa using this
theorem region_inv {ops : List Oper} {id : Nat} {a : Act} {w : World} (hm : P.follows .mixedOrders = true) (hf : fwdB ops = true) (Inv : List Bool → Act → World → Prop)
    (hstep : ∀ i o, ops[i]? = some o → ∀ ls a w, ls.length = ops.length → ls[i]? = some false → (∀ e ∈ o.after, Region.binds .any e = true → ls[e.on]? = some true) → Inv ls a w →
      wpOp P ops.toArray Q i (Inv (ls.set i true)) a w)
    (hend : ∀ ls a w, ls.length = ops.length → (∀ i, i < ops.length → ls[i]? = some true) → Inv ls a w → Q .normal a w)
    (h0 : Inv (List.replicate ops.length false) a w.drew) : (Code.region id ops.toArray true).wp P Q a w := by
  refine wp_region_any hm ?_
  have := wpAny_inv (P := P) (Q := Q) hf Inv hstep hend ops.length (List.replicate ops.length false) a w.drew (by simp) (by rw [unl_len]; exact Nat.le_refl _) h0
  simpa using this
end
end Go.Proofs.Ythkkicanockhgaa

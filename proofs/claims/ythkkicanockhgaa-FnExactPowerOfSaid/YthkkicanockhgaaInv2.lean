/- A region that draws its order: constants, calls, and variables that are laid and written within it. No program in sight. -/
import Derived.Test.YthkkicanockhgaaInv
namespace Go.Proofs.Ythkkicanockhgaa
open Go.RowKit

/-- The state in which the operations of ls have come up, with these values. -/
def putAll : List Oper → List Bool → (Nat → Value) → Nat → Act → Act
  | o :: os, b :: ls, vals, k, a => putAll os ls vals (k + 1) (if b then a.put o.dst (vals k) else a)
  | _, _, _, _, a => a
def upd (vals : Nat → Value) (i : Nat) (v : Value) : Nat → Value := fun j => if j = i then v else vals j
/-- No two write the same slot. -/
def distB : List Oper → Bool
  | [] => true
  | o :: os => (match o.dst with | none => true | some d => os.all fun o' => o'.dst != some d) && distB os
theorem distB_cons {o : Oper} {os : List Oper} (h : distB (o :: os) = true) : (∀ d, o.dst = some d → ∀ o' ∈ os, o'.dst ≠ some d) ∧ distB os = true := by
  unfold distB at h
  rw [Bool.and_eq_true] at h
  refine ⟨fun d hd o' ho => ?_, h.2⟩
  have h1 := h.1
  rw [hd] at h1
  have := List.all_eq_true.1 h1 o' ho
  simpa using this
theorem putAll_congr {vals vals' : Nat → Value} : ∀ (os : List Oper) (ls : List Bool) (k : Nat) (a : Act), (∀ j, k ≤ j → vals j = vals' j) → putAll os ls vals k a = putAll os ls vals' k a
  | [], _, _, _, _ => by unfold putAll; rfl
  | _ :: _, [], _, _, _ => by unfold putAll; rfl
  | o :: os, b :: ls, k, a, h => by
    unfold putAll
    rw [h k (Nat.le_refl _)]
    exact putAll_congr os ls (k + 1) _ fun j hj => h j (by omega)
theorem putAll_out {vals : Nat → Value} : ∀ (os : List Oper) (ls : List Bool) (k : Nat) (a : Act) (d : Option Tmp) (v : Value), (∀ x, d = some x → ∀ o ∈ os, o.dst ≠ some x) →
    putAll os ls vals k (a.put d v) = (putAll os ls vals k a).put d v
  | [], _, _, _, _, _, _ => by unfold putAll; rfl
  | _ :: _, [], _, _, _, _, _ => by unfold putAll; rfl
  | o :: os, b :: ls, k, a, d, v, h => by
    unfold putAll
    rw [← putAll_out os ls (k + 1) _ d v fun x hx o' ho' => h x hx o' (by simp [ho'])]
    congr 1
    cases b
    · rfl
    · exact Act.put_comm a v (vals k) fun x hx => h x hx o (by simp)
theorem putAll_set {vals : Nat → Value} (v : Value) : ∀ (os : List Oper) (ls : List Bool) (k : Nat) (a : Act) (i : Nat) (o : Oper), distB os = true → os[i]? = some o → ls[i]? = some false →
    putAll os (ls.set i true) (upd vals (k + i) v) k a = (putAll os ls vals k a).put o.dst v
  | [], _, _, _, i, _, _, h, _ => by simp at h
  | _ :: _, [], _, _, i, _, _, _, h => by simp at h
  | o' :: os, b :: ls, k, a, 0, o, hd, ho, hl => by
    obtain ⟨h1, h2⟩ := distB_cons hd
    have e1 : o' = o := by simpa using ho
    have e2 : b = false := by simpa using hl
    subst e1; subst e2
    rw [List.set_cons_zero]
    unfold putAll
    rw [if_pos rfl, if_neg (by simp), show upd vals (k + 0) v k = v by simp [upd]]
    rw [putAll_congr (vals' := vals) os ls (k + 1) _ fun j hj => by unfold upd; rw [if_neg (by omega)]]
    exact putAll_out os ls (k + 1) a o'.dst v h1
  | o' :: os, b :: ls, k, a, i + 1, o, hd, ho, hl => by
    obtain ⟨h1, h2⟩ := distB_cons hd
    rw [List.set_cons_succ]
    unfold putAll
    rw [show upd vals (k + (i + 1)) v k = vals k by unfold upd; rw [if_neg (by omega)]]
    have := putAll_set v (vals := vals) os ls (k + 1) (if b then a.put o'.dst (vals k) else a) i o h2 (by simpa using ho) (by simpa using hl)
    rw [show k + 1 + i = k + (i + 1) by omega] at this
    exact this
theorem put_size (a : Act) (d : Option Tmp) (v : Value) : (a.put d v).tmps.size = a.tmps.size := by
  cases d <;> simp [Act.put]
theorem put_get_ne (a : Act) (d : Option Tmp) (v : Value) (s : Nat) (h : d ≠ some s) : (a.put d v).tmps[s]? = a.tmps[s]? := by
  cases d with
  | none => rfl
  | some x =>
    show (a.tmps.setIfInBounds x v)[s]? = _
    rw [Array.getElem?_setIfInBounds, if_neg (fun e => h (by rw [e]))]
theorem put_get_same (a : Act) (v : Value) (s : Nat) (h : s < a.tmps.size) : (a.put (some s) v).tmps[s]? = some v := by
  show (a.tmps.setIfInBounds s v)[s]? = _
  rw [Array.getElem?_setIfInBounds, if_pos rfl, if_pos h]
theorem putAll_size {vals : Nat → Value} : ∀ (os : List Oper) (ls : List Bool) (k : Nat) (a : Act), (putAll os ls vals k a).tmps.size = a.tmps.size
  | [], _, _, _ => by unfold putAll; rfl
  | _ :: _, [], _, _ => by unfold putAll; rfl
  | o :: os, b :: ls, k, a => by
    unfold putAll
    rw [putAll_size os ls (k + 1)]
    cases b
    · rfl
    · exact put_size a o.dst _
theorem putAll_other {vals : Nat → Value} (s : Nat) : ∀ (os : List Oper) (ls : List Bool) (k : Nat) (a : Act), (∀ o ∈ os, o.dst ≠ some s) → (putAll os ls vals k a).tmps[s]? = a.tmps[s]?
  | [], _, _, _, _ => by unfold putAll; rfl
  | _ :: _, [], _, _, _ => by unfold putAll; rfl
  | o :: os, b :: ls, k, a, h => by
    unfold putAll
    rw [putAll_other s os ls (k + 1) _ fun o' ho' => h o' (by simp [ho'])]
    cases b
    · rfl
    · exact put_get_ne a o.dst _ s (h o (by simp))
theorem putAll_get {vals : Nat → Value} (s : Nat) : ∀ (os : List Oper) (ls : List Bool) (k : Nat) (a : Act) (j : Nat) (o : Oper), distB os = true → os[j]? = some o → o.dst = some s → ls[j]? = some true → s < a.tmps.size →
    (putAll os ls vals k a).tmps[s]? = some (vals (k + j))
  | [], _, _, _, j, _, _, h, _, _, _ => by simp at h
  | _ :: _, [], _, _, j, _, _, _, _, h, _ => by simp at h
  | o' :: os, b :: ls, k, a, 0, o, hd, ho, hs, hl, hz => by
    obtain ⟨h1, h2⟩ := distB_cons hd
    have e1 : o' = o := by simpa using ho
    have e2 : b = true := by simpa using hl
    subst e1; subst e2
    unfold putAll
    rw [putAll_other s os ls (k + 1) _ (h1 s hs), if_pos rfl, hs]
    exact put_get_same a _ s hz
  | o' :: os, b :: ls, k, a, j + 1, o, hd, ho, hs, hl, hz => by
    obtain ⟨h1, h2⟩ := distB_cons hd
    unfold putAll
    have := putAll_get (vals := vals) s os ls (k + 1) (if b then a.put o'.dst (vals k) else a) j o h2 (by simpa using ho) hs (by simpa using hl) (by cases b <;> simp [put_size, hz])
    rw [show k + 1 + j = k + (j + 1) by omega] at this
    exact this
end Go.Proofs.Ythkkicanockhgaa

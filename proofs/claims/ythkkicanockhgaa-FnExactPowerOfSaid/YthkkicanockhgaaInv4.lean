/- The rule for drawn regions, as a law's walk uses it. No program in sight. -/
import Derived.Test.YthkkicanockhgaaInv3
namespace Go.Proofs.Ythkkicanockhgaa
open Go.RowKit
section
variable {P : Program} {Q : Exit → Act → World → Prop}
def noGuard (ops : List Oper) : Bool := ops.all fun o => o.guard.isNone
theorem noGuard_spec {ops : List Oper} (h : noGuard ops = true) {i : Nat} {o : Oper} (ho : ops[i]? = some o) : o.guard = none := by
  have := List.all_eq_true.1 h o (List.mem_of_getElem? ho)
  simpa using this
/-- What a result's variable is: laid by operation A (slot pA), written by Z with what operation X has brought (slot sx). -/
def resB (P : Program) (ops : List Oper) (sz A Z X pA sx n T : Nat) : Bool :=
  (match ops[A]? with | some o => decide (o.dst = some pA) && (match o.op with | .alloc t => t == T | _ => false) | none => false) &&
  (match ops[Z]? with | some o => (match o.op with | .store t (.tmp x) (.tmp y) => t == T && x == pA && y == sx | _ => false) && o.after.toList.any (fun e => Region.binds .any e && e.on == A) && o.after.toList.any (fun e => Region.binds .any e && e.on == X) | none => false) &&
  (match ops[X]? with | some o => decide (o.dst = some sx) | none => false) && decide (pA < sz) && decide (sx < sz) && decide ((P.info? T).map (·.size) = some n)
theorem resB_spec {ops : List Oper} {sz A Z X pA sx n T : Nat} (h : resB P ops sz A Z X pA sx n T = true) :
    (∃ o, ops[A]? = some o ∧ o.op = .alloc T ∧ o.dst = some pA) ∧
    (∃ o oX, ops[Z]? = some o ∧ o.op = .store T (.tmp pA) (.tmp sx) ∧ (∃ e ∈ o.after, Region.binds .any e = true ∧ e.on = A) ∧ (∃ e ∈ o.after, Region.binds .any e = true ∧ e.on = X) ∧ ops[X]? = some oX ∧ oX.dst = some sx) ∧
    pA < sz ∧ sx < sz ∧ (P.info? T).map (·.size) = some n := by
  unfold resB at h
  simp only [Bool.and_eq_true, decide_eq_true_eq] at h
  obtain ⟨⟨⟨⟨⟨h1, h2⟩, h3⟩, h4⟩, h5⟩, h6⟩ := h
  refine ⟨?_, ?_, h4, h5, h6⟩
  · cases hA : ops[A]? with
    | none => rw [hA] at h1; cases h1
    | some o =>
      rw [hA] at h1
      simp only [Bool.and_eq_true, decide_eq_true_eq] at h1
      refine ⟨o, rfl, ?_, h1.1⟩
      have := h1.2
      split at this
      · rename_i t ht; rw [ht]; simp at this; rw [this]
      · cases this
  · cases hZ : ops[Z]? with
    | none => rw [hZ] at h2; cases h2
    | some o =>
      cases hX : ops[X]? with
      | none => rw [hX] at h3; cases h3
      | some oX =>
        rw [hZ] at h2
        rw [hX] at h3
        simp only [Bool.and_eq_true, decide_eq_true_eq] at h2 h3
        refine ⟨o, oX, rfl, ?_, ?_, ?_, rfl, h3⟩
        · have := h2.1.1
          split at this
          · rename_i t x y ht; rw [ht]; simp at this; obtain ⟨⟨e1, e2⟩, e3⟩ := this; rw [e1, e2, e3]
          · cases this
        · have h4 := List.any_eq_true.1 h2.1.2
          obtain ⟨e, he, hh⟩ := h4
          rw [Bool.and_eq_true] at hh
          exact ⟨e, by simpa using he, hh.1, by simpa using hh.2⟩
        · have h4 := List.any_eq_true.1 h2.2
          obtain ⟨e, he, hh⟩ := h4
          rw [Bool.and_eq_true] at hh
          exact ⟨e, by simpa using he, hh.1, by simpa using hh.2⟩

def waits (o : Oper) (j : Nat) : Bool := o.after.toList.any fun e => Region.binds .any e && e.on == j
theorem waits_spec {o : Oper} {j : Nat} (h : waits o j = true) : ∃ e ∈ o.after, Region.binds .any e = true ∧ e.on = j := by
  obtain ⟨e, he, hh⟩ := List.any_eq_true.1 h
  rw [Bool.and_eq_true] at hh
  exact ⟨e, by simpa using he, hh.1, by simpa using hh.2⟩
/-- The rule as a law uses it: results' variables A k, Z k, X k, pA k, sx k, n k, T k told by lists. -/
theorem law_region2 {ops : List Oper} {id : Nat} {a0 : Act} {w : World} (hm : P.follows .mixedOrders = true) (hf : fwdB ops = true) (hd : distB ops = true) (hgd : noGuard ops = true)
    (C : Nat → Option Value) (m : Nat) (A Z X pA sx n : Nat → Nat) (r : Nat → Nat → Int) (T : Nat → TypeId)
    (hcls : ∀ i, i < ops.length → (∃ c, C i = some c) ∨ (∃ k, k < m ∧ i = A k) ∨ (∃ k, k < m ∧ i = Z k))
    (hA : ∀ k, k < m → C (A k) = none ∧ C (Z k) = none ∧ C (X k) = some (.agg (u8s (n k) (r k))) ∧ (P.info? (T k)).bind (·.zero) = some (.agg (u8s (n k) fun _ => 0)))
    (hdis : ∀ k, k < m → ∀ k', k' < m → A k ≠ Z k' ∧ (A k = A k' → k = k') ∧ (Z k = Z k' → k = k'))
    (hres : ∀ k, k < m → resB P ops a0.tmps.size (A k) (Z k) (X k) (pA k) (sx k) (n k) (T k) = true)
    (hC : ∀ i o c, ops[i]? = some o → C i = some c → ∀ a w2, Below w.heap.size w w2 →
      (∀ j oj cj s, ops[j]? = some oj → oj.dst = some s → C j = some cj → waits o j = true → decide (s < a0.tmps.size) = true → a.eval (.tmp s) = cj) →
      (∀ s v, noDst ops s = true → a0.tmps[s]? = some v → a.eval (.tmp s) = v) → o.wp P a w2 (fun a' w' => a' = a.put o.dst c ∧ Below w2.heap.size w2 w') Q)
    (hend : ∀ (vals : Nat → Value) w', Below w.heap.size w w' → (∀ i c, i < ops.length → C i = some c → vals i = c) → (∀ k, k < m → ∃ g, vals (A k) = .pointer (some ⟨g, 0, none⟩) ∧ w.heap.size ≤ g ∧ Blk w' g (u8s (n k) (r k)) (T k)) →
      Q .normal (putAll ops (List.replicate ops.length true) vals 0 a0) w') :
    (Code.region id ops.toArray true).wp P Q a0 w := by
  refine law_region hm hf hd (fun w' => Below w.heap.size w w') w.heap.size (fun _ _ h hb => below_step h hb) (fun _ _ _ h hg => below_setRow h hg _) (fun _ h => h.size) C m A Z X pA sx n r T ?_ ?_ ?_ ?_ ?_ (Below.refl _ _).drew ?_
  · intro i o ho
    exact hcls i (List.getElem?_eq_some_iff.1 ho).1
  · intro k hk
    exact ⟨(hA k hk).1, (hA k hk).2.1, hdis k hk⟩
  · intro k hk
    obtain ⟨⟨o, h1, h2, h3⟩, _, h4, _, _⟩ := resB_spec (hres k hk)
    exact ⟨o, h1, h2, h3, noGuard_spec hgd h1, (hA k hk).2.2.2, h4⟩
  · intro k hk
    obtain ⟨_, ⟨o, oX, h1, h2, h3, h4, h5, h6⟩, _, h7, h8⟩ := resB_spec (hres k hk)
    exact ⟨o, oX, h1, h2, noGuard_spec hgd h1, h3, h4, h5, h6, (hA k hk).2.2.1, h7, h8⟩
  · intro i o c ho hci a w2 hB hsz hrd hpar
    exact ⟨noGuard_spec hgd ho, hC i o c ho hci a w2 hB (fun j oj cj s h1 h2 h3 h4 h5 => eval_tmp (hrd j oj cj s h1 h2 h3 (waits_spec h4) (of_decide_eq_true h5))) (fun s v h1 h2 => eval_tmp ((hpar s (noDst_spec h1)).trans h2))⟩
  · intro vals w' hB hc hr ls hall hl
    have : ls = List.replicate ops.length true := by
      apply List.ext_getElem?
      intro i
      by_cases h : i < ops.length
      · rw [hall i h, List.getElem?_replicate, if_pos h]
      · rw [List.getElem?_eq_none (by omega), List.getElem?_eq_none (by simp; omega)]
    subst this
    exact hend vals w' hB hc hr
end
end Go.Proofs.Ythkkicanockhgaa

/- A region that draws its order and holds guarded operations ('&&', '||'): what each brings is told, or that it is left out; its own operations read or call. No program in sight. -/
import Derived.Test.YtnkkkgaojhkniabRegs
set_option linter.unusedVariables false
set_option linter.unusedSimpArgs false
namespace Go.Proofs.Ytnkkkgaojhkniab
open Go.RowKit
section
variable {P : Program} {Q : Exit → Act → World → Prop}
theorem wpOp_yes {ops : List Oper} {i : Nat} {o : Oper} {a : Act} {w : World} {K : Act → World → Prop} (ho : ops[i]? = some o) (hg : Region.wanted o (yielded ops.toArray a.tmps) = true) (h : o.wp P a w K Q) : wpOp P ops.toArray Q i K a w := by
  unfold wpOp
  have h1 : ops.toArray[i]? = some o := by simpa using ho
  simp only [h1, hg, if_true]
  exact .inl h
theorem wpOp_no {ops : List Oper} {i : Nat} {o : Oper} {a : Act} {w : World} {K : Act → World → Prop} (ho : ops[i]? = some o) (hg : Region.wanted o (yielded ops.toArray a.tmps) = false) (h : K (a.put o.dst undef) w) : wpOp P ops.toArray Q i K a w := by
  unfold wpOp
  have h1 : ops.toArray[i]? = some o := by simpa using ho
  simp only [h1, hg]
  exact h
theorem wanted_by {ops : List Oper} {o oj : Oper} {j s : Nat} {b c : Bool} {tmps : Array Value} (hg : o.guard = some (j, b)) (hj : ops[j]? = some oj) (hs : oj.dst = some s) (hv : tmps[s]? = some (.bool c)) : Region.wanted o (yielded ops.toArray tmps) = (c == b) := by
  have h1 : yielded ops.toArray tmps j = some c := by
    unfold yielded
    have : ops.toArray[j]? = some oj := by simpa using hj
    rw [this]
    simp [hs, hv]
  simp [Region.wanted, hg, h1]
theorem wanted_un {ops : List Oper} {o oj : Oper} {j s : Nat} {b : Bool} {tmps : Array Value} (hg : o.guard = some (j, b)) (hj : ops[j]? = some oj) (hs : oj.dst = some s) (hv : tmps[s]? = some undef) : Region.wanted o (yielded ops.toArray tmps) = false := by
  have h1 : yielded ops.toArray tmps j = none := by
    unfold yielded
    have : ops.toArray[j]? = some oj := by simpa using hj
    rw [this]
    simp [hs, hv, undef]
  simp [Region.wanted, hg, h1]
/-- What an operation of such a region does. -/
def Does (P : Program) (Q : Exit → Act → World → Prop) (ops : List Oper) (n : Nat) (C : Nat → Value → World → Prop) (i : Nat) (o : Oper) (a : Act) (w : World) : Prop :=
  (o.guard = none ∧ WpV P o a w (C i) Q) ∨
  (∃ j b oj s, o.guard = some (j, b) ∧ ops[j]? = some oj ∧ oj.dst = some s ∧ waits o j = true ∧ decide (s < n) = true ∧ (∀ v w', C j v w' → v = .bool b) ∧ WpV P o a w (C i) Q) ∨
  (∃ j b oj s, o.guard = some (j, b) ∧ ops[j]? = some oj ∧ oj.dst = some s ∧ waits o j = true ∧ decide (s < n) = true ∧ (∀ v w', C j v w' → v = .bool (!b) ∨ v = undef) ∧ ∀ w', C i undef w')
theorem gen_guard {ops : List Oper} {id : Nat} {a0 : Act} {w : World} (hm : P.follows .mixedOrders = true) (hf : fwdB ops = true) (hd : distB ops = true)
    (C : Nat → Value → World → Prop) (S : World → Prop) (hS0 : S w.drew) (hSb : ∀ w1 w2, S w1 → Below w1.heap.size w1 w2 → S w2)
    (hst : ∀ i v w1 w2, C i v w1 → Below w1.heap.size w1 w2 → C i v w2)
    (hC : ∀ i o, ops[i]? = some o → ∀ a w2, Below w.heap.size w w2 → S w2 →
      (∀ j oj s, ops[j]? = some oj → oj.dst = some s → waits o j = true → decide (s < a0.tmps.size) = true → C j (a.eval (.tmp s)) w2) →
      (∀ s v, noDst ops s = true → a0.tmps[s]? = some v → a.eval (.tmp s) = v) → Does P Q ops a0.tmps.size C i o a w2)
    (hend : ∀ (vals : Nat → Value) w', Below w.heap.size w w' → S w' → (∀ i, i < ops.length → C i (vals i) w') → Q .normal (putAll ops (List.replicate ops.length true) vals 0 a0) w') :
    (Code.region id ops.toArray true).wp P Q a0 w := by
  refine region_inv hm hf (fun ls a w' => ∃ vals, a = putAll ops ls vals 0 a0 ∧ Below w.heap.size w w' ∧ S w' ∧ ∀ j, ls[j]? = some true → C j (vals j) w') ?_ ?_ ?_
  · rintro i o ho ls a w2 hl hli haft ⟨vals, rfl, hB, hS, hc⟩
    have rd : ∀ j oj s, ops[j]? = some oj → oj.dst = some s → waits o j = true → decide (s < a0.tmps.size) = true → (putAll ops ls vals 0 a0).tmps[s]? = some (vals j) ∧ C j (vals j) w2 := fun j oj s hj hs hw hsz => by
      obtain ⟨e, he, hb, rfl⟩ := waits_spec hw
      have h1 := haft e he hb
      have h2 := putAll_get (vals := vals) s ops ls 0 a0 e.on oj hd hj hs h1 (of_decide_eq_true hsz)
      rw [Nat.zero_add] at h2
      exact ⟨h2, hc _ h1⟩
    have step : ∀ v w', C i v w' → Below w2.heap.size w2 w' → ∃ vals', (putAll ops ls vals 0 a0).put o.dst v = putAll ops (ls.set i true) vals' 0 a0 ∧ Below w.heap.size w w' ∧ S w' ∧ ∀ j, (ls.set i true)[j]? = some true → C j (vals' j) w' := fun v w' hv hb => by
      refine ⟨upd vals i v, ?_, hB.trans (hb.mono hB.size), hSb _ _ hS hb, fun j hj => ?_⟩
      · have := putAll_set (vals := vals) v ops ls 0 a0 i o hd ho hli
        rw [Nat.zero_add] at this
        exact this.symm
      · by_cases e : j = i
        · subst e; rw [upd_same]; exact hv
        · rw [upd_ne e]; rw [set_ne (Ne.symm e)] at hj; exact hst _ _ _ _ (hc j hj) hb
    have hwv : WpV P o (putAll ops ls vals 0 a0) w2 (C i) Q → o.wp P (putAll ops ls vals 0 a0) w2 (fun a w' => ∃ vals', a = putAll ops (ls.set i true) vals' 0 a0 ∧ Below w.heap.size w w' ∧ S w' ∧ ∀ j, (ls.set i true)[j]? = some true → C j (vals' j) w') Q := fun h =>
      Oper.wp_mono (fun a' w' ⟨v, e, hv, hb⟩ => by rw [e]; exact step v w' hv hb) h
    rcases hC i o ho (putAll ops ls vals 0 a0) w2 hB hS (fun j oj s hj hs hw hsz => by
        obtain ⟨h1, h2⟩ := rd j oj s hj hs hw hsz
        rw [eval_tmp h1]; exact h2)
      (fun s v h1 h2 => eval_tmp ((putAll_other s ops ls 0 a0 (noDst_spec h1)).trans h2)) with ⟨hg, hwp⟩ | ⟨j, b, oj, s, hg, hj, hs, hw, hsz, hb, hwp⟩ | ⟨j, b, oj, s, hg, hj, hs, hw, hsz, hb, hu⟩
    · exact wpOp_plain ho hg (hwv hwp)
    · obtain ⟨h1, h2⟩ := rd j oj s hj hs hw hsz
      rw [hb _ _ h2] at h1
      exact wpOp_yes ho (by rw [wanted_by hg hj hs h1]; simp) (hwv hwp)
    · obtain ⟨h1, h2⟩ := rd j oj s hj hs hw hsz
      refine wpOp_no ho ?_ (step undef w2 (hu w2) (Below.refl _ _))
      rcases hb _ _ h2 with h3 | h3
      · rw [h3] at h1; rw [wanted_by hg hj hs h1]; cases b <;> rfl
      · rw [h3] at h1; exact wanted_un hg hj hs h1
  · rintro ls a w' hl hall ⟨vals, rfl, hB, hS, hc⟩
    have : ls = List.replicate ops.length true := by
      apply List.ext_getElem?
      intro i
      by_cases h : i < ops.length
      · rw [hall i h, List.getElem?_replicate, if_pos h]
      · rw [List.getElem?_eq_none (by omega), List.getElem?_eq_none (by simp; omega)]
    subst this
    exact hend vals w' hB hS fun i hi => hc i (hall i hi)
  · have hno : ∀ j, (List.replicate ops.length false)[j]? ≠ some true := fun j h => by
      rw [List.getElem?_replicate] at h
      split at h <;> cases h
    have hz : putAll ops (List.replicate ops.length false) (fun _ => undef) 0 a0 = a0 := by
      have key : ∀ (os : List Oper) (k : Nat) (a : Act), putAll os (List.replicate os.length false) (fun _ => undef) k a = a := by
        intro os
        induction os with
        | nil => intro k a; unfold putAll; rfl
        | cons o os ih => intro k a; rw [List.length_cons, List.replicate_succ]; unfold putAll; rw [if_neg (by simp)]; exact ih (k + 1) a
      exact key ops 0 a0
    exact ⟨fun _ => undef, hz.symm, (Below.refl _ _).drew, hS0, fun j h => absurd h (hno j)⟩
/-- All operations but Z. -/
def seenAll (n Z : Nat) : List Bool := (List.replicate n true).set Z false
def allAhead (ops : List Oper) (Z : Nat) : Bool := decide (Z < ops.length) && (List.range ops.length).all fun i => i == Z || (clos ops ops.length [Z]).contains i
theorem gen_last {ops : List Oper} {id : Nat} {a0 : Act} {w : World} (hm : P.follows .mixedOrders = true) (hf : fwdB ops = true) (hd : distB ops = true) (Z : Nat) (hZc : allAhead ops Z = true)
    (C : Nat → Value → World → Prop) (S : World → Prop) (hS0 : S w.drew) (hSb : ∀ w1 w2, S w1 → Below w1.heap.size w1 w2 → S w2)
    (hst : ∀ i v w1 w2, C i v w1 → Below w1.heap.size w1 w2 → C i v w2)
    (hC : ∀ i o, ops[i]? = some o → i ≠ Z → ∀ a w2, Below w.heap.size w w2 → S w2 →
      (∀ j oj s, ops[j]? = some oj → oj.dst = some s → waits o j = true → decide (s < a0.tmps.size) = true → C j (a.eval (.tmp s)) w2) →
      (∀ s v, noDst ops s = true → a0.tmps[s]? = some v → a.eval (.tmp s) = v) → Does P Q ops a0.tmps.size C i o a w2)
    (hZ : ∀ oZ, ops[Z]? = some oZ → ∀ (vals : Nat → Value) w', Below w.heap.size w w' → S w' → (∀ i, i < ops.length → i ≠ Z → C i (vals i) w') →
      oZ.guard = none ∧ oZ.wp P (putAll ops (seenAll ops.length Z) vals 0 a0) w' (fun a' w'' => Q .normal a' w'') Q) :
    (Code.region id ops.toArray true).wp P Q a0 w := by
  unfold allAhead at hZc
  rw [Bool.and_eq_true, decide_eq_true_eq] at hZc
  obtain ⟨hZl, hZa⟩ := hZc
  refine region_inv hm hf (fun ls a w' => (ls[Z]? = some false ∧ Closed ops ls ∧ ∃ vals, a = putAll ops ls vals 0 a0 ∧ Below w.heap.size w w' ∧ S w' ∧ ∀ j, ls[j]? = some true → C j (vals j) w') ∨ ((∀ i, i < ops.length → ls[i]? = some true) ∧ Q .normal a w')) ?_ ?_ ?_
  · rintro i o ho ls a w2 hl hli haft (⟨hzf, hcl, vals, rfl, hB, hS, hc⟩ | ⟨hall, _⟩)
    · by_cases hiZ : i = Z
      · subst hiZ
        have hcl2 : ∀ x ∈ clos ops ops.length [i], x ≠ i → ls[x]? = some true := by
          have hcl' := closed_set ho hcl haft hli
          intro x hx hne
          have := clos_done hcl' ops.length [i] (fun y hy => by rw [List.mem_singleton] at hy; subst hy; exact set_same hli) x hx
          rwa [set_ne (Ne.symm hne)] at this
        have hoth : ∀ j, j < ops.length → j ≠ i → ls[j]? = some true := fun j hj hne => by
          have h1 := List.all_eq_true.1 hZa j (List.mem_range.2 hj)
          rw [Bool.or_eq_true] at h1
          rcases h1 with h1 | h1
          · exact absurd (by simpa using h1) hne
          · exact hcl2 j (by simpa using h1) hne
        have hls : ls = seenAll ops.length i := by
          apply List.ext_getElem?
          intro j
          unfold seenAll
          by_cases hj : j < ops.length
          · by_cases e : i = j
            · subst e; rw [hli, List.getElem?_set_self (by simpa using hj)]
            · rw [List.getElem?_set_ne e, hoth j hj (Ne.symm e), List.getElem?_replicate, if_pos hj]
          · rw [List.getElem?_eq_none (by omega), List.getElem?_eq_none (by simp; omega)]
        obtain ⟨hg, hwp⟩ := hZ o ho vals w2 hB hS fun j hj hne => hc j (hoth j hj hne)
        rw [← hls] at hwp
        refine wpOp_plain ho hg (Oper.wp_mono (fun a' w' h => .inr ⟨fun j hj => ?_, h⟩) hwp)
        by_cases e : i = j
        · subst e; exact set_same hli
        · rw [set_ne e]; exact hoth j hj (Ne.symm e)
      · have rd : ∀ j oj s, ops[j]? = some oj → oj.dst = some s → waits o j = true → decide (s < a0.tmps.size) = true → (putAll ops ls vals 0 a0).tmps[s]? = some (vals j) ∧ C j (vals j) w2 := fun j oj s hj hs hw hsz => by
          obtain ⟨e, he, hb, rfl⟩ := waits_spec hw
          have h1 := haft e he hb
          have h2 := putAll_get (vals := vals) s ops ls 0 a0 e.on oj hd hj hs h1 (of_decide_eq_true hsz)
          rw [Nat.zero_add] at h2
          exact ⟨h2, hc _ h1⟩
        have step : ∀ v w', C i v w' → Below w2.heap.size w2 w' → ((ls.set i true)[Z]? = some false ∧ Closed ops (ls.set i true) ∧ ∃ vals', (putAll ops ls vals 0 a0).put o.dst v = putAll ops (ls.set i true) vals' 0 a0 ∧ Below w.heap.size w w' ∧ S w' ∧ ∀ j, (ls.set i true)[j]? = some true → C j (vals' j) w') := fun v w' hv hb => by
          refine ⟨by rw [set_ne hiZ]; exact hzf, closed_set ho hcl haft hli, upd vals i v, ?_, hB.trans (hb.mono hB.size), hSb _ _ hS hb, fun j hj => ?_⟩
          · have := putAll_set (vals := vals) v ops ls 0 a0 i o hd ho hli
            rw [Nat.zero_add] at this
            exact this.symm
          · by_cases e : j = i
            · subst e; rw [upd_same]; exact hv
            · rw [upd_ne e]; rw [set_ne (Ne.symm e)] at hj; exact hst _ _ _ _ (hc j hj) hb
        have hwv : WpV P o (putAll ops ls vals 0 a0) w2 (C i) Q → o.wp P (putAll ops ls vals 0 a0) w2 (fun a w' => ((ls.set i true)[Z]? = some false ∧ Closed ops (ls.set i true) ∧ ∃ vals', a = putAll ops (ls.set i true) vals' 0 a0 ∧ Below w.heap.size w w' ∧ S w' ∧ ∀ j, (ls.set i true)[j]? = some true → C j (vals' j) w') ∨ ((∀ q, q < ops.length → (ls.set i true)[q]? = some true) ∧ Q .normal a w')) Q := fun h =>
          Oper.wp_mono (fun a' w' ⟨v, e, hv, hb⟩ => by rw [e]; exact .inl (step v w' hv hb)) h
        rcases hC i o ho hiZ (putAll ops ls vals 0 a0) w2 hB hS (fun j oj s hj hs hw hsz => by
            obtain ⟨h1, h2⟩ := rd j oj s hj hs hw hsz
            rw [eval_tmp h1]; exact h2)
          (fun s v h1 h2 => eval_tmp ((putAll_other s ops ls 0 a0 (noDst_spec h1)).trans h2)) with ⟨hg, hwp⟩ | ⟨j, b, oj, s, hg, hj, hs, hw, hsz, hb, hwp⟩ | ⟨j, b, oj, s, hg, hj, hs, hw, hsz, hb, hu⟩
        · exact wpOp_plain ho hg (hwv hwp)
        · obtain ⟨h1, h2⟩ := rd j oj s hj hs hw hsz
          rw [hb _ _ h2] at h1
          exact wpOp_yes ho (by rw [wanted_by hg hj hs h1]; simp) (hwv hwp)
        · obtain ⟨h1, h2⟩ := rd j oj s hj hs hw hsz
          refine wpOp_no ho ?_ (.inl (step undef w2 (hu w2) (Below.refl _ _)))
          rcases hb _ _ h2 with h3 | h3
          · rw [h3] at h1; rw [wanted_by hg hj hs h1]; cases b <;> rfl
          · rw [h3] at h1; exact wanted_un hg hj hs h1
    · have := hall i (List.getElem?_eq_some_iff.1 ho).1
      rw [hli] at this; cases this
  · rintro ls a w' hl hall (⟨hzf, _⟩ | ⟨_, hq⟩)
    · have := hall Z hZl
      rw [hzf] at this; cases this
    · exact hq
  · have hno : ∀ j, (List.replicate ops.length false)[j]? ≠ some true := fun j h => by
      rw [List.getElem?_replicate] at h
      split at h <;> cases h
    have hz : putAll ops (List.replicate ops.length false) (fun _ => undef) 0 a0 = a0 := by
      have key : ∀ (os : List Oper) (k : Nat) (a : Act), putAll os (List.replicate os.length false) (fun _ => undef) k a = a := by
        intro os
        induction os with
        | nil => intro k a; unfold putAll; rfl
        | cons o os ih => intro k a; rw [List.length_cons, List.replicate_succ]; unfold putAll; rw [if_neg (by simp)]; exact ih (k + 1) a
      exact key ops 0 a0
    exact .inl ⟨by rw [List.getElem?_replicate, if_pos hZl], fun i o _ h => absurd h (hno i), fun _ => undef, hz.symm, (Below.refl _ _).drew, hS0, fun j h => absurd h (hno j)⟩
end
end Go.Proofs.Ytnkkkgaojhkniab

/- Several texts in one: Inv7, Inv8, Inv9. -/
import Derived.Test.YtojkngdabejjdaaRegs
set_option linter.unusedVariables false
set_option linter.unusedSimpArgs false
/- A region that draws its order and holds guarded operations ('&&', '||'): what each brings is told, or that it is left out; its own operations read or call. No program in sight. -/
namespace Go.Proofs.Ytojkngdabejjdaa
open Go.RowKit
section
variable {P : Program} {Q : Exit → Act → World → Prop}
theorem wpOp_yes {ops : List Oper} {i : Nat} {o : Oper} {a : Act} {w : World} {K : Act → World → Prop} (ho : ops[i]? = some o) (hg : Region.wanted o (yielded ops.toArray a.tmps) = true) (h : o.wp P a w K Q) : wpOp P ops.toArray Q i K a w := by
  unfold wpOp
  have h1 : ops.toArray[i]? = some o := by simpa using ho
  simp only [h1, hg, if_true]
  exact .inl h
theorem wpOp_no {ops : List Oper} {i : Nat} {o : Oper} {a : Act} {w : World} {K : Act → World → Prop} (ho : ops[i]? = some o) (hg : Region.wanted o (yielded ops.toArray a.tmps) = false) (h : K (a.put o.dst undef) w) : wpOp P ops.toArray Q i K a w := by
  unfold wpOp
  have h1 : ops.toArray[i]? = some o := by simpa using ho
  simp only [h1, hg]
  exact h
theorem wanted_by {ops : List Oper} {o oj : Oper} {j s : Nat} {b c : Bool} {tmps : Array Value} (hg : o.guard = some (j, b)) (hj : ops[j]? = some oj) (hs : oj.dst = some s) (hv : tmps[s]? = some (.bool c)) : Region.wanted o (yielded ops.toArray tmps) = (c == b) := by
  have h1 : yielded ops.toArray tmps j = some c := by
    unfold yielded
    have : ops.toArray[j]? = some oj := by simpa using hj
    rw [this]
    simp [hs, hv]
  simp [Region.wanted, hg, h1]
theorem wanted_un {ops : List Oper} {o oj : Oper} {j s : Nat} {b : Bool} {tmps : Array Value} (hg : o.guard = some (j, b)) (hj : ops[j]? = some oj) (hs : oj.dst = some s) (hv : tmps[s]? = some undef) : Region.wanted o (yielded ops.toArray tmps) = false := by
  have h1 : yielded ops.toArray tmps j = none := by
    unfold yielded
    have : ops.toArray[j]? = some oj := by simpa using hj
    rw [this]
    simp [hs, hv, undef]
  simp [Region.wanted, hg, h1]
/-- What an operation of such a region does. -/
def Does (P : Program) (Q : Exit → Act → World → Prop) (ops : List Oper) (n : Nat) (C : Nat → Value → World → Prop) (i : Nat) (o : Oper) (a : Act) (w : World) : Prop :=
  (o.guard = none ∧ WpV P o a w (C i) Q) ∨
  (∃ j b oj s, o.guard = some (j, b) ∧ ops[j]? = some oj ∧ oj.dst = some s ∧ waits o j = true ∧ decide (s < n) = true ∧ (∀ v w', C j v w' → v = .bool b) ∧ WpV P o a w (C i) Q) ∨
  (∃ j b oj s, o.guard = some (j, b) ∧ ops[j]? = some oj ∧ oj.dst = some s ∧ waits o j = true ∧ decide (s < n) = true ∧ (∀ v w', C j v w' → v = .bool (!b) ∨ v = undef) ∧ ∀ w', C i undef w')
theorem gen_guard {ops : List Oper} {id : Nat} {a0 : Act} {w : World} (hm : P.follows .mixedOrders = true) (hf : fwdB ops = true) (hd : distB ops = true)
    (C : Nat → Value → World → Prop) (S : World → Prop) (hS0 : S w.drew) (hSb : ∀ w1 w2, S w1 → Below w1.heap.size w1 w2 → S w2)
    (hst : ∀ i v w1 w2, C i v w1 → Below w1.heap.size w1 w2 → C i v w2)
    (hC : ∀ i o, ops[i]? = some o → ∀ a w2, Below w.heap.size w w2 → S w2 →
      (∀ j oj s, ops[j]? = some oj → oj.dst = some s → waits o j = true → decide (s < a0.tmps.size) = true → C j (a.eval (.tmp s)) w2) →
      (∀ s v, noDst ops s = true → a0.tmps[s]? = some v → a.eval (.tmp s) = v) → Does P Q ops a0.tmps.size C i o a w2)
    (hend : ∀ (vals : Nat → Value) w', Below w.heap.size w w' → S w' → (∀ i, i < ops.length → C i (vals i) w') → Q .normal (putAll ops (List.replicate ops.length true) vals 0 a0) w') :
    (Code.region id ops.toArray true).wp P Q a0 w := by
  refine region_inv hm hf (fun ls a w' => ∃ vals, a = putAll ops ls vals 0 a0 ∧ Below w.heap.size w w' ∧ S w' ∧ ∀ j, ls[j]? = some true → C j (vals j) w') ?_ ?_ ?_
  · rintro i o ho ls a w2 hl hli haft ⟨vals, rfl, hB, hS, hc⟩
    have rd : ∀ j oj s, ops[j]? = some oj → oj.dst = some s → waits o j = true → decide (s < a0.tmps.size) = true → (putAll ops ls vals 0 a0).tmps[s]? = some (vals j) ∧ C j (vals j) w2 := fun j oj s hj hs hw hsz => by
      obtain ⟨e, he, hb, rfl⟩ := waits_spec hw
      have h1 := haft e he hb
      have h2 := putAll_get (vals := vals) s ops ls 0 a0 e.on oj hd hj hs h1 (of_decide_eq_true hsz)
      rw [Nat.zero_add] at h2
      exact ⟨h2, hc _ h1⟩
    have step : ∀ v w', C i v w' → Below w2.heap.size w2 w' → ∃ vals', (putAll ops ls vals 0 a0).put o.dst v = putAll ops (ls.set i true) vals' 0 a0 ∧ Below w.heap.size w w' ∧ S w' ∧ ∀ j, (ls.set i true)[j]? = some true → C j (vals' j) w' := fun v w' hv hb => by
      refine ⟨upd vals i v, ?_, hB.trans (hb.mono hB.size), hSb _ _ hS hb, fun j hj => ?_⟩
      · have := putAll_set (vals := vals) v ops ls 0 a0 i o hd ho hli
        rw [Nat.zero_add] at this
        exact this.symm
      · by_cases e : j = i
        · subst e; rw [upd_same]; exact hv
        · rw [upd_ne e]; rw [set_ne (Ne.symm e)] at hj; exact hst _ _ _ _ (hc j hj) hb
    have hwv : WpV P o (putAll ops ls vals 0 a0) w2 (C i) Q → o.wp P (putAll ops ls vals 0 a0) w2 (fun a w' => ∃ vals', a = putAll ops (ls.set i true) vals' 0 a0 ∧ Below w.heap.size w w' ∧ S w' ∧ ∀ j, (ls.set i true)[j]? = some true → C j (vals' j) w') Q := fun h =>
      Oper.wp_mono (fun a' w' ⟨v, e, hv, hb⟩ => by rw [e]; exact step v w' hv hb) h
    rcases hC i o ho (putAll ops ls vals 0 a0) w2 hB hS (fun j oj s hj hs hw hsz => by
        obtain ⟨h1, h2⟩ := rd j oj s hj hs hw hsz
        rw [eval_tmp h1]; exact h2)
      (fun s v h1 h2 => eval_tmp ((putAll_other s ops ls 0 a0 (noDst_spec h1)).trans h2)) with ⟨hg, hwp⟩ | ⟨j, b, oj, s, hg, hj, hs, hw, hsz, hb, hwp⟩ | ⟨j, b, oj, s, hg, hj, hs, hw, hsz, hb, hu⟩
    · exact wpOp_plain ho hg (hwv hwp)
    · obtain ⟨h1, h2⟩ := rd j oj s hj hs hw hsz
      rw [hb _ _ h2] at h1
      exact wpOp_yes ho (by rw [wanted_by hg hj hs h1]; simp) (hwv hwp)
    · obtain ⟨h1, h2⟩ := rd j oj s hj hs hw hsz
      refine wpOp_no ho ?_ (step undef w2 (hu w2) (Below.refl _ _))
      rcases hb _ _ h2 with h3 | h3
      · rw [h3] at h1; rw [wanted_by hg hj hs h1]; cases b <;> rfl
      · rw [h3] at h1; exact wanted_un hg hj hs h1
  · rintro ls a w' hl hall ⟨vals, rfl, hB, hS, hc⟩
    have : ls = List.replicate ops.length true := by
      apply List.ext_getElem?
      intro i
      by_cases h : i < ops.length
      · rw [hall i h, List.getElem?_replicate, if_pos h]
      · rw [List.getElem?_eq_none (by omega), List.getElem?_eq_none (by simp; omega)]
    subst this
    exact hend vals w' hB hS fun i hi => hc i (hall i hi)
  · have hno : ∀ j, (List.replicate ops.length false)[j]? ≠ some true := fun j h => by
      rw [List.getElem?_replicate] at h
      split at h <;> cases h
    have hz : putAll ops (List.replicate ops.length false) (fun _ => undef) 0 a0 = a0 := by
      have key : ∀ (os : List Oper) (k : Nat) (a : Act), putAll os (List.replicate os.length false) (fun _ => undef) k a = a := by
        intro os
        induction os with
        | nil => intro k a; unfold putAll; rfl
        | cons o os ih => intro k a; rw [List.length_cons, List.replicate_succ]; unfold putAll; rw [if_neg (by simp)]; exact ih (k + 1) a
      exact key ops 0 a0
    exact ⟨fun _ => undef, hz.symm, (Below.refl _ _).drew, hS0, fun j h => absurd h (hno j)⟩
/-- All operations but Z. -/
def seenAll (n Z : Nat) : List Bool := (List.replicate n true).set Z false
def allAhead (ops : List Oper) (Z : Nat) : Bool := decide (Z < ops.length) && (List.range ops.length).all fun i => i == Z || (clos ops ops.length [Z]).contains i
theorem gen_last {ops : List Oper} {id : Nat} {a0 : Act} {w : World} (hm : P.follows .mixedOrders = true) (hf : fwdB ops = true) (hd : distB ops = true) (Z : Nat) (hZc : allAhead ops Z = true)
    (C : Nat → Value → World → Prop) (S : World → Prop) (hS0 : S w.drew) (hSb : ∀ w1 w2, S w1 → Below w1.heap.size w1 w2 → S w2)
    (hst : ∀ i v w1 w2, C i v w1 → Below w1.heap.size w1 w2 → C i v w2)
    (hC : ∀ i o, ops[i]? = some o → i ≠ Z → ∀ a w2, Below w.heap.size w w2 → S w2 →
      (∀ j oj s, ops[j]? = some oj → oj.dst = some s → waits o j = true → decide (s < a0.tmps.size) = true → C j (a.eval (.tmp s)) w2) →
      (∀ s v, noDst ops s = true → a0.tmps[s]? = some v → a.eval (.tmp s) = v) → Does P Q ops a0.tmps.size C i o a w2)
    (hZ : ∀ oZ, ops[Z]? = some oZ → ∀ (vals : Nat → Value) w', Below w.heap.size w w' → S w' → (∀ i, i < ops.length → i ≠ Z → C i (vals i) w') →
      oZ.guard = none ∧ oZ.wp P (putAll ops (seenAll ops.length Z) vals 0 a0) w' (fun a' w'' => Q .normal a' w'') Q) :
    (Code.region id ops.toArray true).wp P Q a0 w := by
  unfold allAhead at hZc
  rw [Bool.and_eq_true, decide_eq_true_eq] at hZc
  obtain ⟨hZl, hZa⟩ := hZc
  refine region_inv hm hf (fun ls a w' => (ls[Z]? = some false ∧ Closed ops ls ∧ ∃ vals, a = putAll ops ls vals 0 a0 ∧ Below w.heap.size w w' ∧ S w' ∧ ∀ j, ls[j]? = some true → C j (vals j) w') ∨ ((∀ i, i < ops.length → ls[i]? = some true) ∧ Q .normal a w')) ?_ ?_ ?_
  · rintro i o ho ls a w2 hl hli haft (⟨hzf, hcl, vals, rfl, hB, hS, hc⟩ | ⟨hall, _⟩)
    · by_cases hiZ : i = Z
      · subst hiZ
        have hcl2 : ∀ x ∈ clos ops ops.length [i], x ≠ i → ls[x]? = some true := by
          have hcl' := closed_set ho hcl haft hli
          intro x hx hne
          have := clos_done hcl' ops.length [i] (fun y hy => by rw [List.mem_singleton] at hy; subst hy; exact set_same hli) x hx
          rwa [set_ne (Ne.symm hne)] at this
        have hoth : ∀ j, j < ops.length → j ≠ i → ls[j]? = some true := fun j hj hne => by
          have h1 := List.all_eq_true.1 hZa j (List.mem_range.2 hj)
          rw [Bool.or_eq_true] at h1
          rcases h1 with h1 | h1
          · exact absurd (by simpa using h1) hne
          · exact hcl2 j (by simpa using h1) hne
        have hls : ls = seenAll ops.length i := by
          apply List.ext_getElem?
          intro j
          unfold seenAll
          by_cases hj : j < ops.length
          · by_cases e : i = j
            · subst e; rw [hli, List.getElem?_set_self (by simpa using hj)]
            · rw [List.getElem?_set_ne e, hoth j hj (Ne.symm e), List.getElem?_replicate, if_pos hj]
          · rw [List.getElem?_eq_none (by omega), List.getElem?_eq_none (by simp; omega)]
        obtain ⟨hg, hwp⟩ := hZ o ho vals w2 hB hS fun j hj hne => hc j (hoth j hj hne)
        rw [← hls] at hwp
        refine wpOp_plain ho hg (Oper.wp_mono (fun a' w' h => .inr ⟨fun j hj => ?_, h⟩) hwp)
        by_cases e : i = j
        · subst e; exact set_same hli
        · rw [set_ne e]; exact hoth j hj (Ne.symm e)
      · have rd : ∀ j oj s, ops[j]? = some oj → oj.dst = some s → waits o j = true → decide (s < a0.tmps.size) = true → (putAll ops ls vals 0 a0).tmps[s]? = some (vals j) ∧ C j (vals j) w2 := fun j oj s hj hs hw hsz => by
          obtain ⟨e, he, hb, rfl⟩ := waits_spec hw
          have h1 := haft e he hb
          have h2 := putAll_get (vals := vals) s ops ls 0 a0 e.on oj hd hj hs h1 (of_decide_eq_true hsz)
          rw [Nat.zero_add] at h2
          exact ⟨h2, hc _ h1⟩
        have step : ∀ v w', C i v w' → Below w2.heap.size w2 w' → ((ls.set i true)[Z]? = some false ∧ Closed ops (ls.set i true) ∧ ∃ vals', (putAll ops ls vals 0 a0).put o.dst v = putAll ops (ls.set i true) vals' 0 a0 ∧ Below w.heap.size w w' ∧ S w' ∧ ∀ j, (ls.set i true)[j]? = some true → C j (vals' j) w') := fun v w' hv hb => by
          refine ⟨by rw [set_ne hiZ]; exact hzf, closed_set ho hcl haft hli, upd vals i v, ?_, hB.trans (hb.mono hB.size), hSb _ _ hS hb, fun j hj => ?_⟩
          · have := putAll_set (vals := vals) v ops ls 0 a0 i o hd ho hli
            rw [Nat.zero_add] at this
            exact this.symm
          · by_cases e : j = i
            · subst e; rw [upd_same]; exact hv
            · rw [upd_ne e]; rw [set_ne (Ne.symm e)] at hj; exact hst _ _ _ _ (hc j hj) hb
        have hwv : WpV P o (putAll ops ls vals 0 a0) w2 (C i) Q → o.wp P (putAll ops ls vals 0 a0) w2 (fun a w' => ((ls.set i true)[Z]? = some false ∧ Closed ops (ls.set i true) ∧ ∃ vals', a = putAll ops (ls.set i true) vals' 0 a0 ∧ Below w.heap.size w w' ∧ S w' ∧ ∀ j, (ls.set i true)[j]? = some true → C j (vals' j) w') ∨ ((∀ q, q < ops.length → (ls.set i true)[q]? = some true) ∧ Q .normal a w')) Q := fun h =>
          Oper.wp_mono (fun a' w' ⟨v, e, hv, hb⟩ => by rw [e]; exact .inl (step v w' hv hb)) h
        rcases hC i o ho hiZ (putAll ops ls vals 0 a0) w2 hB hS (fun j oj s hj hs hw hsz => by
            obtain ⟨h1, h2⟩ := rd j oj s hj hs hw hsz
            rw [eval_tmp h1]; exact h2)
          (fun s v h1 h2 => eval_tmp ((putAll_other s ops ls 0 a0 (noDst_spec h1)).trans h2)) with ⟨hg, hwp⟩ | ⟨j, b, oj, s, hg, hj, hs, hw, hsz, hb, hwp⟩ | ⟨j, b, oj, s, hg, hj, hs, hw, hsz, hb, hu⟩
        · exact wpOp_plain ho hg (hwv hwp)
        · obtain ⟨h1, h2⟩ := rd j oj s hj hs hw hsz
          rw [hb _ _ h2] at h1
          exact wpOp_yes ho (by rw [wanted_by hg hj hs h1]; simp) (hwv hwp)
        · obtain ⟨h1, h2⟩ := rd j oj s hj hs hw hsz
          refine wpOp_no ho ?_ (.inl (step undef w2 (hu w2) (Below.refl _ _)))
          rcases hb _ _ h2 with h3 | h3
          · rw [h3] at h1; rw [wanted_by hg hj hs h1]; cases b <;> rfl
          · rw [h3] at h1; exact wanted_un hg hj hs h1
    · have := hall i (List.getElem?_eq_some_iff.1 ho).1
      rw [hli] at this; cases this
  · rintro ls a w' hl hall (⟨hzf, _⟩ | ⟨_, hq⟩)
    · have := hall Z hZl
      rw [hzf] at this; cases this
    · exact hq
  · have hno : ∀ j, (List.replicate ops.length false)[j]? ≠ some true := fun j h => by
      rw [List.getElem?_replicate] at h
      split at h <;> cases h
    have hz : putAll ops (List.replicate ops.length false) (fun _ => undef) 0 a0 = a0 := by
      have key : ∀ (os : List Oper) (k : Nat) (a : Act), putAll os (List.replicate os.length false) (fun _ => undef) k a = a := by
        intro os
        induction os with
        | nil => intro k a; unfold putAll; rfl
        | cons o os ih => intro k a; rw [List.length_cons, List.replicate_succ]; unfold putAll; rw [if_neg (by simp)]; exact ih (k + 1) a
      exact key ops 0 a0
    exact .inl ⟨by rw [List.getElem?_replicate, if_pos hZl], fun i o _ h => absurd h (hno i), fun _ => undef, hz.symm, (Below.refl _ _).drew, hS0, fun j h => absurd h (hno j)⟩
end
end Go.Proofs.Ytojkngdabejjdaa

/- A region that draws its order with two last operations, one behind the other; variables laid within such a region. No program in sight. -/
namespace Go.Proofs.Ytojkngdabejjdaa
open Go.RowKit
section
variable {P : Program} {Q : Exit → Act → World → Prop}
/-- All operations but two. -/
def seen2 (n Z1 Z2 : Nat) : List Bool := ((List.replicate n true).set Z1 false).set Z2 false
def ahead2 (ops : List Oper) (Z1 Z2 : Nat) : Bool := decide (Z1 < ops.length) && decide (Z1 ≠ Z2) && ((List.range ops.length).all fun i => i == Z1 || i == Z2 || (clos ops ops.length [Z1]).contains i) && allAhead ops Z2
theorem gen_last2 {ops : List Oper} {id : Nat} {a0 : Act} {w : World} (hm : P.follows .mixedOrders = true) (hf : fwdB ops = true) (hd : distB ops = true) (Z1 Z2 : Nat) (hZc : ahead2 ops Z1 Z2 = true)
    (C : Nat → Value → World → Prop) (S : World → Prop) (hS0 : S w.drew) (hSb : ∀ w1 w2, S w1 → Below w1.heap.size w1 w2 → S w2)
    (hst : ∀ i v w1 w2, C i v w1 → Below w1.heap.size w1 w2 → C i v w2)
    (hC : ∀ i o, ops[i]? = some o → i ≠ Z1 → i ≠ Z2 → ∀ a w2, Below w.heap.size w w2 → S w2 →
      (∀ j oj s, ops[j]? = some oj → oj.dst = some s → waits o j = true → decide (s < a0.tmps.size) = true → C j (a.eval (.tmp s)) w2) →
      (∀ s v, noDst ops s = true → a0.tmps[s]? = some v → a.eval (.tmp s) = v) → Does P Q ops a0.tmps.size C i o a w2)
    (hZ : ∀ o1 o2, ops[Z1]? = some o1 → ops[Z2]? = some o2 → ∀ (vals : Nat → Value) w', Below w.heap.size w w' → S w' → (∀ i, i < ops.length → i ≠ Z1 → i ≠ Z2 → C i (vals i) w') →
      o1.guard = none ∧ o2.guard = none ∧ o1.wp P (putAll ops (seen2 ops.length Z1 Z2) vals 0 a0) w' (fun a' w'' => o2.wp P a' w'' (fun a3 w3 => Q .normal a3 w3) Q) Q) :
    (Code.region id ops.toArray true).wp P Q a0 w := by
  unfold ahead2 at hZc
  rw [Bool.and_eq_true, Bool.and_eq_true, Bool.and_eq_true, decide_eq_true_eq, decide_eq_true_eq] at hZc
  obtain ⟨⟨⟨hZl, hZn⟩, hZa⟩, hZ2c⟩ := hZc
  unfold allAhead at hZ2c
  rw [Bool.and_eq_true, decide_eq_true_eq] at hZ2c
  obtain ⟨hZ2l, hZ2a⟩ := hZ2c
  refine region_inv hm hf (fun ls a w' => (ls[Z1]? = some false ∧ ls[Z2]? = some false ∧ Closed ops ls ∧ ∃ vals, a = putAll ops ls vals 0 a0 ∧ Below w.heap.size w w' ∧ S w' ∧ ∀ j, ls[j]? = some true → C j (vals j) w') ∨
    ((∀ i, i < ops.length → i ≠ Z2 → ls[i]? = some true) ∧ ls[Z2]? = some false ∧ ∀ o2, ops[Z2]? = some o2 → o2.guard = none ∧ o2.wp P a w' (fun a3 w3 => Q .normal a3 w3) Q) ∨
    ((∀ i, i < ops.length → ls[i]? = some true) ∧ Q .normal a w')) ?_ ?_ ?_
  · rintro i o ho ls a w2 hl hli haft (⟨hzf, hzf2, hcl, vals, rfl, hB, hS, hc⟩ | ⟨hall, hz2, hK⟩ | ⟨hall, _⟩)
    · have hil := (List.getElem?_eq_some_iff.1 ho).1
      by_cases hiZ : i = Z1
      · subst hiZ
        have hcl2 : ∀ x ∈ clos ops ops.length [i], x ≠ i → ls[x]? = some true := by
          have hcl' := closed_set ho hcl haft hli
          intro x hx hne
          have := clos_done hcl' ops.length [i] (fun y hy => by rw [List.mem_singleton] at hy; subst hy; exact set_same hli) x hx
          rwa [set_ne (Ne.symm hne)] at this
        have hoth : ∀ j, j < ops.length → j ≠ i → j ≠ Z2 → ls[j]? = some true := fun j hj hne hne2 => by
          have h1 := List.all_eq_true.1 hZa j (List.mem_range.2 hj)
          rw [Bool.or_eq_true, Bool.or_eq_true] at h1
          rcases h1 with (h1 | h1) | h1
          · exact absurd (by simpa using h1) hne
          · exact absurd (by simpa using h1) hne2
          · exact hcl2 j (by simpa using h1) hne
        have hls : ls = seen2 ops.length i Z2 := by
          apply List.ext_getElem?
          intro j
          unfold seen2
          by_cases hj : j < ops.length
          · by_cases e2 : Z2 = j
            · subst e2; rw [hzf2, List.getElem?_set_self (by simpa using hj)]
            · rw [List.getElem?_set_ne e2]
              by_cases e : i = j
              · subst e; rw [hli, List.getElem?_set_self (by simpa using hj)]
              · rw [List.getElem?_set_ne e, hoth j hj (Ne.symm e) (Ne.symm e2), List.getElem?_replicate, if_pos hj]
          · rw [List.getElem?_eq_none (by omega), List.getElem?_eq_none (by simp; omega)]
        obtain ⟨o2, ho2⟩ : ∃ o2, ops[Z2]? = some o2 := ⟨_, List.getElem?_eq_getElem hZ2l⟩
        obtain ⟨hg, hg2, hwp⟩ := hZ o o2 ho ho2 vals w2 hB hS fun j hj hne hne2 => hc j (hoth j hj hne hne2)
        rw [← hls] at hwp
        refine wpOp_plain ho hg (Oper.wp_mono (fun a' w' h => .inr (.inl ⟨fun j hj hj2 => ?_, ?_, fun o2' ho2' => ?_⟩)) hwp)
        · by_cases e : i = j
          · subst e; exact set_same hli
          · rw [set_ne e]; exact hoth j hj (Ne.symm e) hj2
        · rw [set_ne hZn]; exact hzf2
        · rw [ho2] at ho2'
          obtain rfl := Option.some.inj ho2'
          exact ⟨hg2, h⟩
      · by_cases hiZ2 : i = Z2
        · subst hiZ2
          have hcl' := closed_set ho hcl haft hli
          have h1 := List.all_eq_true.1 hZ2a Z1 (List.mem_range.2 hZl)
          rw [Bool.or_eq_true] at h1
          rcases h1 with h1 | h1
          · exact absurd (by simpa using h1) hZn
          · have := clos_done hcl' ops.length [i] (fun y hy => by rw [List.mem_singleton] at hy; subst hy; exact set_same hli) Z1 (by simpa using h1)
            rw [set_ne hiZ, hzf] at this
            cases this
        · have rd : ∀ j oj s, ops[j]? = some oj → oj.dst = some s → waits o j = true → decide (s < a0.tmps.size) = true → (putAll ops ls vals 0 a0).tmps[s]? = some (vals j) ∧ C j (vals j) w2 := fun j oj s hj hs hw hsz => by
            obtain ⟨e, he, hb, rfl⟩ := waits_spec hw
            have h1 := haft e he hb
            have h2 := putAll_get (vals := vals) s ops ls 0 a0 e.on oj hd hj hs h1 (of_decide_eq_true hsz)
            rw [Nat.zero_add] at h2
            exact ⟨h2, hc _ h1⟩
          let J : Act → World → Prop := fun a w' => ((ls.set i true)[Z1]? = some false ∧ (ls.set i true)[Z2]? = some false ∧ Closed ops (ls.set i true) ∧ ∃ vals', a = putAll ops (ls.set i true) vals' 0 a0 ∧ Below w.heap.size w w' ∧ S w' ∧ ∀ j, (ls.set i true)[j]? = some true → C j (vals' j) w')
          have step : ∀ v w', C i v w' → Below w2.heap.size w2 w' → J ((putAll ops ls vals 0 a0).put o.dst v) w' := fun v w' hv hb => by
            refine ⟨by rw [set_ne hiZ]; exact hzf, by rw [set_ne hiZ2]; exact hzf2, closed_set ho hcl haft hli, upd vals i v, ?_, hB.trans (hb.mono hB.size), hSb _ _ hS hb, fun j hj => ?_⟩
            · have := putAll_set (vals := vals) v ops ls 0 a0 i o hd ho hli
              rw [Nat.zero_add] at this
              exact this.symm
            · by_cases e : j = i
              · subst e; rw [upd_same]; exact hv
              · rw [upd_ne e]; rw [set_ne (Ne.symm e)] at hj; exact hst _ _ _ _ (hc j hj) hb
          have hwv : WpV P o (putAll ops ls vals 0 a0) w2 (C i) Q → o.wp P (putAll ops ls vals 0 a0) w2 (fun a w' => J a w' ∨ ((∀ q, q < ops.length → q ≠ Z2 → (ls.set i true)[q]? = some true) ∧ (ls.set i true)[Z2]? = some false ∧ ∀ o2, ops[Z2]? = some o2 → o2.guard = none ∧ o2.wp P a w' (fun a3 w3 => Q .normal a3 w3) Q) ∨ ((∀ q, q < ops.length → (ls.set i true)[q]? = some true) ∧ Q .normal a w')) Q := fun h =>
            Oper.wp_mono (fun a' w' ⟨v, e, hv, hb⟩ => by rw [e]; exact .inl (step v w' hv hb)) h
          rcases hC i o ho hiZ hiZ2 (putAll ops ls vals 0 a0) w2 hB hS (fun j oj s hj hs hw hsz => by
              obtain ⟨h1, h2⟩ := rd j oj s hj hs hw hsz
              rw [eval_tmp h1]; exact h2)
            (fun s v h1 h2 => eval_tmp ((putAll_other s ops ls 0 a0 (noDst_spec h1)).trans h2)) with ⟨hg, hwp⟩ | ⟨j, b, oj, s, hg, hj, hs, hw, hsz, hb, hwp⟩ | ⟨j, b, oj, s, hg, hj, hs, hw, hsz, hb, hu⟩
          · exact wpOp_plain ho hg (hwv hwp)
          · obtain ⟨h1, h2⟩ := rd j oj s hj hs hw hsz
            rw [hb _ _ h2] at h1
            exact wpOp_yes ho (by rw [wanted_by hg hj hs h1]; simp) (hwv hwp)
          · obtain ⟨h1, h2⟩ := rd j oj s hj hs hw hsz
            refine wpOp_no ho ?_ (.inl (step undef w2 (hu w2) (Below.refl _ _)))
            rcases hb _ _ h2 with h3 | h3
            · rw [h3] at h1; rw [wanted_by hg hj hs h1]; cases b <;> rfl
            · rw [h3] at h1; exact wanted_un hg hj hs h1
    · have hil := (List.getElem?_eq_some_iff.1 ho).1
      by_cases hiZ2 : i = Z2
      · subst hiZ2
        obtain ⟨hg, hwp⟩ := hK o ho
        refine wpOp_plain ho hg (Oper.wp_mono (fun a' w' h => .inr (.inr ⟨fun j hj => ?_, h⟩)) hwp)
        by_cases e : i = j
        · subst e; exact set_same hli
        · rw [set_ne e]; exact hall j hj (Ne.symm e)
      · have := hall i hil hiZ2
        rw [hli] at this; cases this
    · have := hall i (List.getElem?_eq_some_iff.1 ho).1
      rw [hli] at this; cases this
  · rintro ls a w' hl hall (⟨hzf, _⟩ | ⟨_, hz2, _⟩ | ⟨_, hq⟩)
    · have := hall Z1 hZl
      rw [hzf] at this; cases this
    · have := hall Z2 hZ2l
      rw [hz2] at this; cases this
    · exact hq
  · have hno : ∀ j, (List.replicate ops.length false)[j]? ≠ some true := fun j h => by
      rw [List.getElem?_replicate] at h
      split at h <;> cases h
    have hz : putAll ops (List.replicate ops.length false) (fun _ => undef) 0 a0 = a0 := by
      have key : ∀ (os : List Oper) (k : Nat) (a : Act), putAll os (List.replicate os.length false) (fun _ => undef) k a = a := by
        intro os
        induction os with
        | nil => intro k a; unfold putAll; rfl
        | cons o os ih => intro k a; rw [List.length_cons, List.replicate_succ]; unfold putAll; rw [if_neg (by simp)]; exact ih (k + 1) a
      exact key ops 0 a0
    exact .inl ⟨by rw [List.getElem?_replicate, if_pos hZl], by rw [List.getElem?_replicate, if_pos hZ2l], fun i o _ h => absurd h (hno i), fun _ => undef, hz.symm, (Below.refl _ _).drew, hS0, fun j h => absurd h (hno j)⟩
/-- A variable is laid. -/
theorem wpv_alloc {o : Oper} {a : Act} {w : World} (t : TypeId) (hop : o.op = .alloc t) (cs : Array Value) (hz : (P.info? t).bind (·.zero) = some (.agg cs)) (base : Nat) (hb : base ≤ w.heap.size) :
    WpV P o a w (fun v w' => ∃ g, v = .pointer (some ⟨g, 0, none⟩) ∧ base ≤ g ∧ Blk w' g cs t) Q := by
  obtain ⟨i, hi, hz⟩ := Option.bind_eq_some_iff.1 hz
  unfold WpV Oper.wp execOp
  simp [hop, Instr.alloc, zeroValue, typeInfo, hi, hz, newVar, newRow, newObj, Sem.run_bind, Value.cells, Oper.upon]
  exact ⟨_, rfl, ⟨_, rfl, hb, Blk.new w cs t⟩, below_new _ _⟩
end
end Go.Proofs.Ytojkngdabejjdaa

/- Drawn regions with two forced last operations, which may write slots that are read ahead of them. -/
namespace Go.Proofs.Ytojkngdabejjdaa
open Go.RowKit
section
variable {P : Program} {Q : Exit → Act → World → Prop}
/-- A slot that no operation but the last two writes. -/
def noDstB (ops : List Oper) (Z1 Z2 s : Nat) : Bool := (List.range ops.length).all fun i => i == Z1 || i == Z2 || (match ops[i]? with | some o => o.dst != some s | none => true)
theorem noDstB_spec {ops : List Oper} {Z1 Z2 s : Nat} (h : noDstB ops Z1 Z2 s = true) (i : Nat) (o : Oper) (ho : ops[i]? = some o) (h1 : i ≠ Z1) (h2 : i ≠ Z2) : o.dst ≠ some s := by
  have h3 := List.all_eq_true.1 h i (List.mem_range.2 (List.getElem?_eq_some_iff.1 ho).1)
  rw [Bool.or_eq_true, Bool.or_eq_true] at h3
  rcases h3 with (h3 | h3) | h3
  · exact absurd (by simpa using h3) h1
  · exact absurd (by simpa using h3) h2
  · rw [ho] at h3; simpa using h3
theorem putAll_otherB {vals : Nat → Value} (s : Nat) : ∀ (os : List Oper) (ls : List Bool) (k : Nat) (a : Act), (∀ (i : Nat) (o : Oper), os[i]? = some o → ls[i]? = some true → o.dst ≠ some s) → (putAll os ls vals k a).tmps[s]? = a.tmps[s]?
  | [], _, _, _, _ => by unfold putAll; rfl
  | _ :: _, [], _, _, _ => by unfold putAll; rfl
  | o :: os, b :: ls, k, a, h => by
    unfold putAll
    rw [putAll_otherB s os ls (k + 1) _ fun i o' h1 h2 => h (i + 1) o' (by simpa using h1) (by simpa using h2)]
    cases b
    · rfl
    · exact put_get_ne a o.dst _ s (h 0 o rfl rfl)
theorem gen_last2K {ops : List Oper} {id : Nat} {a0 : Act} {w : World} (hm : P.follows .mixedOrders = true) (hf : fwdB ops = true) (hd : distB ops = true) (Z1 Z2 : Nat) (hZc : ahead2 ops Z1 Z2 = true)
    (C : Nat → Value → World → Prop) (S : World → Prop) (hS0 : S w.drew) (hSb : ∀ w1 w2, S w1 → Below w1.heap.size w1 w2 → S w2)
    (hst : ∀ i v w1 w2, C i v w1 → Below w1.heap.size w1 w2 → C i v w2)
    (hC : ∀ i o, ops[i]? = some o → i ≠ Z1 → i ≠ Z2 → ∀ a w2, Below w.heap.size w w2 → S w2 →
      (∀ j oj s, ops[j]? = some oj → oj.dst = some s → waits o j = true → decide (s < a0.tmps.size) = true → C j (a.eval (.tmp s)) w2) →
      (∀ s v, noDstB ops Z1 Z2 s = true → a0.tmps[s]? = some v → a.eval (.tmp s) = v) → Does P Q ops a0.tmps.size C i o a w2)
    (hZ : ∀ o1 o2, ops[Z1]? = some o1 → ops[Z2]? = some o2 → ∀ (vals : Nat → Value) w', Below w.heap.size w w' → S w' → (∀ i, i < ops.length → i ≠ Z1 → i ≠ Z2 → C i (vals i) w') →
      o1.guard = none ∧ o2.guard = none ∧ o1.wp P (putAll ops (seen2 ops.length Z1 Z2) vals 0 a0) w' (fun a' w'' => o2.wp P a' w'' (fun a3 w3 => Q .normal a3 w3) Q) Q) :
    (Code.region id ops.toArray true).wp P Q a0 w := by
  unfold ahead2 at hZc
  rw [Bool.and_eq_true, Bool.and_eq_true, Bool.and_eq_true, decide_eq_true_eq, decide_eq_true_eq] at hZc
  obtain ⟨⟨⟨hZl, hZn⟩, hZa⟩, hZ2c⟩ := hZc
  unfold allAhead at hZ2c
  rw [Bool.and_eq_true, decide_eq_true_eq] at hZ2c
  obtain ⟨hZ2l, hZ2a⟩ := hZ2c
  refine region_inv hm hf (fun ls a w' => (ls[Z1]? = some false ∧ ls[Z2]? = some false ∧ Closed ops ls ∧ ∃ vals, a = putAll ops ls vals 0 a0 ∧ Below w.heap.size w w' ∧ S w' ∧ ∀ j, ls[j]? = some true → C j (vals j) w') ∨
    ((∀ i, i < ops.length → i ≠ Z2 → ls[i]? = some true) ∧ ls[Z2]? = some false ∧ ∀ o2, ops[Z2]? = some o2 → o2.guard = none ∧ o2.wp P a w' (fun a3 w3 => Q .normal a3 w3) Q) ∨
    ((∀ i, i < ops.length → ls[i]? = some true) ∧ Q .normal a w')) ?_ ?_ ?_
  · rintro i o ho ls a w2 hl hli haft (⟨hzf, hzf2, hcl, vals, rfl, hB, hS, hc⟩ | ⟨hall, hz2, hK⟩ | ⟨hall, _⟩)
    · have hil := (List.getElem?_eq_some_iff.1 ho).1
      by_cases hiZ : i = Z1
      · subst hiZ
        have hcl2 : ∀ x ∈ clos ops ops.length [i], x ≠ i → ls[x]? = some true := by
          have hcl' := closed_set ho hcl haft hli
          intro x hx hne
          have := clos_done hcl' ops.length [i] (fun y hy => by rw [List.mem_singleton] at hy; subst hy; exact set_same hli) x hx
          rwa [set_ne (Ne.symm hne)] at this
        have hoth : ∀ j, j < ops.length → j ≠ i → j ≠ Z2 → ls[j]? = some true := fun j hj hne hne2 => by
          have h1 := List.all_eq_true.1 hZa j (List.mem_range.2 hj)
          rw [Bool.or_eq_true, Bool.or_eq_true] at h1
          rcases h1 with (h1 | h1) | h1
          · exact absurd (by simpa using h1) hne
          · exact absurd (by simpa using h1) hne2
          · exact hcl2 j (by simpa using h1) hne
        have hls : ls = seen2 ops.length i Z2 := by
          apply List.ext_getElem?
          intro j
          unfold seen2
          by_cases hj : j < ops.length
          · by_cases e2 : Z2 = j
            · subst e2; rw [hzf2, List.getElem?_set_self (by simpa using hj)]
            · rw [List.getElem?_set_ne e2]
              by_cases e : i = j
              · subst e; rw [hli, List.getElem?_set_self (by simpa using hj)]
              · rw [List.getElem?_set_ne e, hoth j hj (Ne.symm e) (Ne.symm e2), List.getElem?_replicate, if_pos hj]
          · rw [List.getElem?_eq_none (by omega), List.getElem?_eq_none (by simp; omega)]
        obtain ⟨o2, ho2⟩ : ∃ o2, ops[Z2]? = some o2 := ⟨_, List.getElem?_eq_getElem hZ2l⟩
        obtain ⟨hg, hg2, hwp⟩ := hZ o o2 ho ho2 vals w2 hB hS fun j hj hne hne2 => hc j (hoth j hj hne hne2)
        rw [← hls] at hwp
        refine wpOp_plain ho hg (Oper.wp_mono (fun a' w' h => .inr (.inl ⟨fun j hj hj2 => ?_, ?_, fun o2' ho2' => ?_⟩)) hwp)
        · by_cases e : i = j
          · subst e; exact set_same hli
          · rw [set_ne e]; exact hoth j hj (Ne.symm e) hj2
        · rw [set_ne hZn]; exact hzf2
        · rw [ho2] at ho2'
          obtain rfl := Option.some.inj ho2'
          exact ⟨hg2, h⟩
      · by_cases hiZ2 : i = Z2
        · subst hiZ2
          have hcl' := closed_set ho hcl haft hli
          have h1 := List.all_eq_true.1 hZ2a Z1 (List.mem_range.2 hZl)
          rw [Bool.or_eq_true] at h1
          rcases h1 with h1 | h1
          · exact absurd (by simpa using h1) hZn
          · have := clos_done hcl' ops.length [i] (fun y hy => by rw [List.mem_singleton] at hy; subst hy; exact set_same hli) Z1 (by simpa using h1)
            rw [set_ne hiZ, hzf] at this
            cases this
        · have rd : ∀ j oj s, ops[j]? = some oj → oj.dst = some s → waits o j = true → decide (s < a0.tmps.size) = true → (putAll ops ls vals 0 a0).tmps[s]? = some (vals j) ∧ C j (vals j) w2 := fun j oj s hj hs hw hsz => by
            obtain ⟨e, he, hb, rfl⟩ := waits_spec hw
            have h1 := haft e he hb
            have h2 := putAll_get (vals := vals) s ops ls 0 a0 e.on oj hd hj hs h1 (of_decide_eq_true hsz)
            rw [Nat.zero_add] at h2
            exact ⟨h2, hc _ h1⟩
          let J : Act → World → Prop := fun a w' => ((ls.set i true)[Z1]? = some false ∧ (ls.set i true)[Z2]? = some false ∧ Closed ops (ls.set i true) ∧ ∃ vals', a = putAll ops (ls.set i true) vals' 0 a0 ∧ Below w.heap.size w w' ∧ S w' ∧ ∀ j, (ls.set i true)[j]? = some true → C j (vals' j) w')
          have step : ∀ v w', C i v w' → Below w2.heap.size w2 w' → J ((putAll ops ls vals 0 a0).put o.dst v) w' := fun v w' hv hb => by
            refine ⟨by rw [set_ne hiZ]; exact hzf, by rw [set_ne hiZ2]; exact hzf2, closed_set ho hcl haft hli, upd vals i v, ?_, hB.trans (hb.mono hB.size), hSb _ _ hS hb, fun j hj => ?_⟩
            · have := putAll_set (vals := vals) v ops ls 0 a0 i o hd ho hli
              rw [Nat.zero_add] at this
              exact this.symm
            · by_cases e : j = i
              · subst e; rw [upd_same]; exact hv
              · rw [upd_ne e]; rw [set_ne (Ne.symm e)] at hj; exact hst _ _ _ _ (hc j hj) hb
          have hwv : WpV P o (putAll ops ls vals 0 a0) w2 (C i) Q → o.wp P (putAll ops ls vals 0 a0) w2 (fun a w' => J a w' ∨ ((∀ q, q < ops.length → q ≠ Z2 → (ls.set i true)[q]? = some true) ∧ (ls.set i true)[Z2]? = some false ∧ ∀ o2, ops[Z2]? = some o2 → o2.guard = none ∧ o2.wp P a w' (fun a3 w3 => Q .normal a3 w3) Q) ∨ ((∀ q, q < ops.length → (ls.set i true)[q]? = some true) ∧ Q .normal a w')) Q := fun h =>
            Oper.wp_mono (fun a' w' ⟨v, e, hv, hb⟩ => by rw [e]; exact .inl (step v w' hv hb)) h
          rcases hC i o ho hiZ hiZ2 (putAll ops ls vals 0 a0) w2 hB hS (fun j oj s hj hs hw hsz => by
              obtain ⟨h1, h2⟩ := rd j oj s hj hs hw hsz
              rw [eval_tmp h1]; exact h2)
            (fun s v h1 h2 => eval_tmp ((putAll_otherB s ops ls 0 a0 fun j oj hj hl => noDstB_spec h1 j oj hj (fun e => by rw [e, hzf] at hl; cases hl) (fun e => by rw [e, hzf2] at hl; cases hl)).trans h2)) with ⟨hg, hwp⟩ | ⟨j, b, oj, s, hg, hj, hs, hw, hsz, hb, hwp⟩ | ⟨j, b, oj, s, hg, hj, hs, hw, hsz, hb, hu⟩
          · exact wpOp_plain ho hg (hwv hwp)
          · obtain ⟨h1, h2⟩ := rd j oj s hj hs hw hsz
            rw [hb _ _ h2] at h1
            exact wpOp_yes ho (by rw [wanted_by hg hj hs h1]; simp) (hwv hwp)
          · obtain ⟨h1, h2⟩ := rd j oj s hj hs hw hsz
            refine wpOp_no ho ?_ (.inl (step undef w2 (hu w2) (Below.refl _ _)))
            rcases hb _ _ h2 with h3 | h3
            · rw [h3] at h1; rw [wanted_by hg hj hs h1]; cases b <;> rfl
            · rw [h3] at h1; exact wanted_un hg hj hs h1
    · have hil := (List.getElem?_eq_some_iff.1 ho).1
      by_cases hiZ2 : i = Z2
      · subst hiZ2
        obtain ⟨hg, hwp⟩ := hK o ho
        refine wpOp_plain ho hg (Oper.wp_mono (fun a' w' h => .inr (.inr ⟨fun j hj => ?_, h⟩)) hwp)
        by_cases e : i = j
        · subst e; exact set_same hli
        · rw [set_ne e]; exact hall j hj (Ne.symm e)
      · have := hall i hil hiZ2
        rw [hli] at this; cases this
    · have := hall i (List.getElem?_eq_some_iff.1 ho).1
      rw [hli] at this; cases this
  · rintro ls a w' hl hall (⟨hzf, _⟩ | ⟨_, hz2, _⟩ | ⟨_, hq⟩)
    · have := hall Z1 hZl
      rw [hzf] at this; cases this
    · have := hall Z2 hZ2l
      rw [hz2] at this; cases this
    · exact hq
  · have hno : ∀ j, (List.replicate ops.length false)[j]? ≠ some true := fun j h => by
      rw [List.getElem?_replicate] at h
      split at h <;> cases h
    have hz : putAll ops (List.replicate ops.length false) (fun _ => undef) 0 a0 = a0 := by
      have key : ∀ (os : List Oper) (k : Nat) (a : Act), putAll os (List.replicate os.length false) (fun _ => undef) k a = a := by
        intro os
        induction os with
        | nil => intro k a; unfold putAll; rfl
        | cons o os ih => intro k a; rw [List.length_cons, List.replicate_succ]; unfold putAll; rw [if_neg (by simp)]; exact ih (k + 1) a
      exact key ops 0 a0
    exact .inl ⟨by rw [List.getElem?_replicate, if_pos hZl], by rw [List.getElem?_replicate, if_pos hZ2l], fun i o _ h => absurd h (hno i), fun _ => undef, hz.symm, (Below.refl _ _).drew, hS0, fun j h => absurd h (hno j)⟩
end
end Go.Proofs.Ytojkngdabejjdaa

/- Drawn regions, for any relation between worlds. -/
import Derived.Test.YtddgbnkojdmekaaInvR
set_option linter.unusedVariables false
set_option linter.unusedSimpArgs false
namespace Go.Proofs.Ytddgbnkojdmekaa
open Go.RowKit
section
variable {P : Program} {Q : Exit → Act → World → Prop}
theorem gen_guardR {ops : List Oper} {id : Nat} {a0 : Act} {w : World} (R : World → World → Prop) (hRd : R w w.drew) (hRr : ∀ a, R a a) (hRt : ∀ a b c, R a b → R b c → R a c) (hm : P.follows .mixedOrders = true) (hf : fwdB ops = true) (hd : distB ops = true)
    (C : Nat → Value → World → Prop) (S : World → Prop) (hS0 : S w.drew) (hSb : ∀ w1 w2, S w1 → R w1 w2 → S w2)
    (hst : ∀ i v w1 w2, C i v w1 → R w1 w2 → C i v w2)
    (hC : ∀ i o, ops[i]? = some o → ∀ a w2, R w w2 → S w2 →
      (∀ j oj s, ops[j]? = some oj → oj.dst = some s → waits o j = true → decide (s < a0.tmps.size) = true → C j (a.eval (.tmp s)) w2) →
      (∀ s v, noDst ops s = true → a0.tmps[s]? = some v → a.eval (.tmp s) = v) → DoesR R P Q ops a0.tmps.size C i o a w2)
    (hend : ∀ (vals : Nat → Value) w', R w w' → S w' → (∀ i, i < ops.length → C i (vals i) w') → Q .normal (putAll ops (List.replicate ops.length true) vals 0 a0) w') :
    (Code.region id ops.toArray true).wp P Q a0 w := by
  refine region_inv hm hf (fun ls a w' => ∃ vals, a = putAll ops ls vals 0 a0 ∧ R w w' ∧ S w' ∧ ∀ j, ls[j]? = some true → C j (vals j) w') ?_ ?_ ?_
  · rintro i o ho ls a w2 hl hli haft ⟨vals, rfl, hB, hS, hc⟩
    have rd : ∀ j oj s, ops[j]? = some oj → oj.dst = some s → waits o j = true → decide (s < a0.tmps.size) = true → (putAll ops ls vals 0 a0).tmps[s]? = some (vals j) ∧ C j (vals j) w2 := fun j oj s hj hs hw hsz => by
      obtain ⟨e, he, hb, rfl⟩ := waits_spec hw
      have h1 := haft e he hb
      have h2 := putAll_get (vals := vals) s ops ls 0 a0 e.on oj hd hj hs h1 (of_decide_eq_true hsz)
      rw [Nat.zero_add] at h2
      exact ⟨h2, hc _ h1⟩
    have step : ∀ v w', C i v w' → R w2 w' → ∃ vals', (putAll ops ls vals 0 a0).put o.dst v = putAll ops (ls.set i true) vals' 0 a0 ∧ R w w' ∧ S w' ∧ ∀ j, (ls.set i true)[j]? = some true → C j (vals' j) w' := fun v w' hv hb => by
      refine ⟨upd vals i v, ?_, hRt _ _ _ hB hb, hSb _ _ hS hb, fun j hj => ?_⟩
      · have := putAll_set (vals := vals) v ops ls 0 a0 i o hd ho hli
        rw [Nat.zero_add] at this
        exact this.symm
      · by_cases e : j = i
        · subst e; rw [upd_same]; exact hv
        · rw [upd_ne e]; rw [set_ne (Ne.symm e)] at hj; exact hst _ _ _ _ (hc j hj) hb
    have hwv : WpR R P o (putAll ops ls vals 0 a0) w2 (C i) Q → o.wp P (putAll ops ls vals 0 a0) w2 (fun a w' => ∃ vals', a = putAll ops (ls.set i true) vals' 0 a0 ∧ R w w' ∧ S w' ∧ ∀ j, (ls.set i true)[j]? = some true → C j (vals' j) w') Q := fun h =>
      Oper.wp_mono (fun a' w' ⟨v, e, hv, hb⟩ => by rw [e]; exact step v w' hv hb) h
    rcases hC i o ho (putAll ops ls vals 0 a0) w2 hB hS (fun j oj s hj hs hw hsz => by
        obtain ⟨h1, h2⟩ := rd j oj s hj hs hw hsz
        rw [eval_tmp h1]; exact h2)
      (fun s v h1 h2 => eval_tmp ((putAll_other s ops ls 0 a0 (noDst_spec h1)).trans h2)) with ⟨hg, hwp⟩ | ⟨j, b, oj, s, hg, hj, hs, hw, hsz, hb, hwp⟩ | ⟨j, b, oj, s, hg, hj, hs, hw, hsz, hb, hu⟩
    · exact wpOp_plain ho hg (hwv hwp)
    · obtain ⟨h1, h2⟩ := rd j oj s hj hs hw hsz
      rw [hb _ _ h2] at h1
      exact wpOp_yes ho (by rw [wanted_by hg hj hs h1]; simp) (hwv hwp)
    · obtain ⟨h1, h2⟩ := rd j oj s hj hs hw hsz
      refine wpOp_no ho ?_ (step undef w2 (hu w2) (hRr _))
      rcases hb _ _ h2 with h3 | h3
      · rw [h3] at h1; rw [wanted_by hg hj hs h1]; cases b <;> rfl
      · rw [h3] at h1; exact wanted_un hg hj hs h1
  · rintro ls a w' hl hall ⟨vals, rfl, hB, hS, hc⟩
    have : ls = List.replicate ops.length true := by
      apply List.ext_getElem?
      intro i
      by_cases h : i < ops.length
      · rw [hall i h, List.getElem?_replicate, if_pos h]
      · rw [List.getElem?_eq_none (by omega), List.getElem?_eq_none (by simp; omega)]
    subst this
    exact hend vals w' hB hS fun i hi => hc i (hall i hi)
  · have hno : ∀ j, (List.replicate ops.length false)[j]? ≠ some true := fun j h => by
      rw [List.getElem?_replicate] at h
      split at h <;> cases h
    have hz : putAll ops (List.replicate ops.length false) (fun _ => undef) 0 a0 = a0 := by
      have key : ∀ (os : List Oper) (k : Nat) (a : Act), putAll os (List.replicate os.length false) (fun _ => undef) k a = a := by
        intro os
        induction os with
        | nil => intro k a; unfold putAll; rfl
        | cons o os ih => intro k a; rw [List.length_cons, List.replicate_succ]; unfold putAll; rw [if_neg (by simp)]; exact ih (k + 1) a
      exact key ops 0 a0
    exact ⟨fun _ => undef, hz.symm, hRd, hS0, fun j h => absurd h (hno j)⟩
end
end Go.Proofs.Ytddgbnkojdmekaa

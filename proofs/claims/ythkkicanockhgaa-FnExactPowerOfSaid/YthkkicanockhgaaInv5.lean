/- A region that draws its order: values told by relations that later memory does not change, and stores into variables laid before it. No program in sight. -/
import Derived.Test.YthkkicanockhgaaInv4
namespace Go.Proofs.Ythkkicanockhgaa
open Go.RowKit

/-- What an operation waits for. -/
def pre (ops : List Oper) (i : Nat) : List Nat := match ops[i]? with | some o => (o.after.toList.filter fun e => Region.binds .any e).map (·.on) | none => []
def addAll (S : List Nat) : List Nat → List Nat
  | [] => S
  | x :: xs => addAll (if S.contains x then S else x :: S) xs
/-- What it waits for, also through others. -/
def clos (ops : List Oper) : Nat → List Nat → List Nat
  | 0, S => S
  | f + 1, S => clos ops f (addAll S (S.flatMap (pre ops)))
def Closed (ops : List Oper) (ls : List Bool) : Prop := ∀ (i : Nat) (o : Oper), ops[i]? = some o → ls[i]? = some true → ∀ e ∈ o.after, Region.binds .any e = true → ls[e.on]? = some true
theorem addAll_done {ls : List Bool} : ∀ (xs S : List Nat), (∀ x ∈ S, ls[x]? = some true) → (∀ x ∈ xs, ls[x]? = some true) → ∀ x ∈ addAll S xs, ls[x]? = some true
  | [], _, h, _ => h
  | y :: xs, S, h, h2 => by
    refine addAll_done xs _ (fun x hx => ?_) (fun x hx => h2 x (by simp [hx]))
    split at hx
    · exact h x hx
    · rw [List.mem_cons] at hx
      rcases hx with rfl | hx
      · exact h2 _ (by simp)
      · exact h x hx
theorem clos_done {ops : List Oper} {ls : List Bool} (hc : Closed ops ls) : ∀ (f : Nat) (S : List Nat), (∀ x ∈ S, ls[x]? = some true) → ∀ x ∈ clos ops f S, ls[x]? = some true
  | 0, _, h => h
  | f + 1, S, h => by
    refine clos_done hc f _ (addAll_done _ _ h fun x hx => ?_)
    rw [List.mem_flatMap] at hx
    obtain ⟨i, hi, hx⟩ := hx
    unfold pre at hx
    cases ho : ops[i]? with
    | none => rw [ho] at hx; cases hx
    | some o =>
      rw [ho] at hx
      simp only [List.mem_map, List.mem_filter] at hx
      obtain ⟨e, ⟨he, hb⟩, rfl⟩ := hx
      exact hc i o ho (h i hi) e (by simpa using he) hb
/-- Whatever is not late comes up ahead of each store. -/
def lateB (ops : List Oper) (late : Nat → Bool) (m : Nat) (Z : Nat → Nat) : Bool :=
  (List.range ops.length).all fun i => late i || (List.range m).any (fun k => Z k == i) || (List.range m).all fun k => (clos ops ops.length [Z k]).contains i
theorem lateB_spec {ops : List Oper} {late : Nat → Bool} {m : Nat} {Z : Nat → Nat} (h : lateB ops late m Z = true) {ls : List Bool} (hc : Closed ops ls) {i : Nat} (hi : i < ops.length) (hl : late i = false) (hz : ∀ k, k < m → Z k ≠ i)
    {k : Nat} (hk : k < m) (hd : ls[Z k]? = some true) : ls[i]? = some true := by
  have h1 := List.all_eq_true.1 h i (List.mem_range.2 hi)
  rw [hl, Bool.false_or, Bool.or_eq_true] at h1
  rcases h1 with h1 | h1
  · obtain ⟨q, hq, h2⟩ := List.any_eq_true.1 h1
    exact absurd (by simpa using h2) (hz q (List.mem_range.1 hq))
  · have h2 := List.all_eq_true.1 h1 k (List.mem_range.2 hk)
    exact clos_done hc _ [Z k] (fun x hx => by rw [List.mem_singleton] at hx; rw [hx]; exact hd) i (by simpa using h2)
section
variable {P : Program} {Q : Exit → Act → World → Prop}
/-- A store of operation X's value (slot sx) into the variable that slot p points to. -/
def stoB (P : Program) (ops : List Oper) (sz Z X p sx n T : Nat) : Bool :=
  (match ops[Z]? with | some o => (match o.op with | .store t (.tmp x) (.tmp y) => t == T && x == p && y == sx | _ => false) && o.after.toList.any (fun e => Region.binds .any e && e.on == X) | none => false) &&
  (match ops[X]? with | some o => decide (o.dst = some sx) | none => false) && noDst ops p && decide (sx < sz) && decide ((P.info? T).map (·.size) = some n)
theorem stoB_spec {ops : List Oper} {sz Z X p sx n T : Nat} (h : stoB P ops sz Z X p sx n T = true) :
    (∃ o oX, ops[Z]? = some o ∧ o.op = .store T (.tmp p) (.tmp sx) ∧ (∃ e ∈ o.after, Region.binds .any e = true ∧ e.on = X) ∧ ops[X]? = some oX ∧ oX.dst = some sx) ∧ noDst ops p = true ∧ sx < sz ∧ (P.info? T).map (·.size) = some n := by
  unfold stoB at h
  simp only [Bool.and_eq_true, decide_eq_true_eq] at h
  obtain ⟨⟨⟨⟨h2, h3⟩, h4⟩, h5⟩, h6⟩ := h
  refine ⟨?_, h4, h5, h6⟩
  cases hZ : ops[Z]? with
  | none => rw [hZ] at h2; cases h2
  | some o =>
    cases hX : ops[X]? with
    | none => rw [hX] at h3; cases h3
    | some oX =>
      rw [hZ] at h2
      rw [hX] at h3
      simp only [Bool.and_eq_true, decide_eq_true_eq] at h2 h3
      refine ⟨o, oX, rfl, ?_, ?_, rfl, h3⟩
      · have := h2.1
        split at this
        · rename_i t x y ht; rw [ht]; simp at this; obtain ⟨⟨e1, e2⟩, e3⟩ := this; rw [e1, e2, e3]
        · cases this
      · obtain ⟨e, he, hh⟩ := List.any_eq_true.1 h2.2
        rw [Bool.and_eq_true] at hh
        exact ⟨e, by simpa using he, hh.1, by simpa using hh.2⟩
/-- One operation's law: a value with C. -/
def WpV (P : Program) (o : Oper) (a : Act) (w : World) (C : Value → World → Prop) (Q : Exit → Act → World → Prop) : Prop :=
  o.wp P a w (fun a' w' => ∃ v, a' = a.put o.dst v ∧ C v w' ∧ Below w.heap.size w w') Q

/-- The invariant. -/
def LG (ops : List Oper) (a0 : Act) (ws w0 : World) (B : Nat) (S : World → Prop) (C : Nat → Value → World → Prop) (m : Nat) (Z gz n : Nat → Nat) (r r0 : Nat → Nat → Int) (T : Nat → TypeId) (ls : List Bool) (a : Act) (w : World) : Prop :=
  ∃ vals, a = putAll ops ls vals 0 a0 ∧ (Below B ws w ∧ S w) ∧ Closed ops ls ∧ (∀ j, ls[j]? = some true → (∀ k, k < m → Z k ≠ j) → ∃ w', C j (vals j) w') ∧
    (∀ k, k < m → Blk w (gz k) (u8s (n k) (if ls[Z k]? = some true then r k else r0 k)) (T k)) ∧
    ((∀ k, k < m → ls[Z k]? ≠ some true) → Below w0.heap.size w0 w ∧ ∀ j, ls[j]? = some true → C j (vals j) w)
theorem closed_set {ops : List Oper} {ls : List Bool} {i : Nat} {o : Oper} (ho : ops[i]? = some o) (h : Closed ops ls) (haft : ∀ e ∈ o.after, Region.binds .any e = true → ls[e.on]? = some true) (hli : ls[i]? = some false) : Closed ops (ls.set i true) := by
  have up : ∀ j, ls[j]? = some true → (ls.set i true)[j]? = some true := fun j hj => by
    by_cases e : i = j
    · subst e; exact set_same hli
    · rw [set_ne e]; exact hj
  intro j o' ho' hj e he hb
  by_cases ej : i = j
  · subst ej
    rw [ho] at ho'
    obtain rfl := Option.some.inj ho'
    exact up _ (haft e he hb)
  · rw [set_ne ej] at hj
    exact up _ (h j o' ho' hj e he hb)

theorem gen_region {ops : List Oper} {id : Nat} {a0 : Act} {ws w : World} {B : Nat} (hm : P.follows .mixedOrders = true) (hf : fwdB ops = true) (hd : distB ops = true) (hgd : noGuard ops = true)
    (C : Nat → Value → World → Prop) (late : Nat → Bool) (m : Nat) (Z X p sx gz n : Nat → Nat) (r r0 : Nat → Nat → Int) (T : Nat → TypeId)
    (hW : Below B ws w) (hBs : B ≤ ws.heap.size)
    (S : World → Prop) (hS0 : S w.drew) (hSb : ∀ w1 w2, S w1 → Below w1.heap.size w1 w2 → S w2) (hSs : ∀ k, k < m → ∀ w1 cs, S w1 → S (w1.setRow (gz k) cs))
    (hst : ∀ i v w1 w2, C i v w1 → Below w1.heap.size w1 w2 → C i v w2)
    (hZ : ∀ k, k < m → stoB P ops a0.tmps.size (Z k) (X k) (p k) (sx k) (n k) (T k) = true)
    (hZd : ∀ k, k < m → B ≤ gz k ∧ a0.tmps[p k]? = some (.pointer (some ⟨gz k, 0, none⟩)) ∧ Blk w (gz k) (u8s (n k) (r0 k)) (T k) ∧ (∀ v w', C (X k) v w' → v = .agg (u8s (n k) (r k))) ∧ (∀ k', k' < m → Z k' ≠ X k) ∧ ∀ k', k' < m → (k ≠ k' → gz k ≠ gz k' ∧ Z k ≠ Z k'))
    (hlate : lateB ops late m Z = true)
    (hC : ∀ i o, ops[i]? = some o → (∀ k, k < m → Z k ≠ i) → ∀ a w2, Below B ws w2 → S w2 → (late i = false → Below w.heap.size w w2) →
      (∀ j oj s, ops[j]? = some oj → oj.dst = some s → waits o j = true → decide (s < a0.tmps.size) = true → (∀ k, k < m → Z k ≠ j) → (∃ w', C j (a.eval (.tmp s)) w') ∧ (late i = false → C j (a.eval (.tmp s)) w2)) →
      (∀ s v, noDst ops s = true → a0.tmps[s]? = some v → a.eval (.tmp s) = v) → WpV P o a w2 (C i) Q)
    (hend : ∀ (vals : Nat → Value) w', Below B ws w' → S w' → (m = 0 → Below w.heap.size w w' ∧ ∀ i, i < ops.length → C i (vals i) w') → (∀ i, i < ops.length → (∀ k, k < m → Z k ≠ i) → ∃ w', C i (vals i) w') →
      (∀ k, k < m → Blk w' (gz k) (u8s (n k) (r k)) (T k)) → Q .normal (putAll ops (List.replicate ops.length true) vals 0 a0) w') :
    (Code.region id ops.toArray true).wp P Q a0 w := by
  refine region_inv hm hf (LG ops a0 ws w B S C m Z gz n r r0 T) ?_ ?_ ?_
  · rintro i o ho ls a w2 hl hli haft ⟨vals, rfl, ⟨hB, hS⟩, hcl, hc, hr, hn⟩
    by_cases hz : ∀ k, k < m → Z k ≠ i
    · have hnl : late i = false → ∀ k, k < m → ls[Z k]? ≠ some true := fun hh k hk hq => by
        have h1 := lateB_spec hlate hcl (List.getElem?_eq_some_iff.1 ho).1 hh hz hk hq
        rw [hli] at h1; cases h1
      have hwp := hC i o ho hz (putAll ops ls vals 0 a0) w2 hB hS (fun hh => (hn (hnl hh)).1)
        (fun j oj s hj hs hw hsz hzj => by
          obtain ⟨e, he, hb, rfl⟩ := waits_spec hw
          have h1 := haft e he hb
          have h2 := eval_tmp (putAll_get (vals := vals) s ops ls 0 a0 e.on oj hd hj hs h1 (of_decide_eq_true hsz))
          rw [Nat.zero_add] at h2
          rw [h2]
          exact ⟨hc _ h1 hzj, fun hh => (hn (hnl hh)).2 _ h1⟩)
        (fun s v h1 h2 => eval_tmp ((putAll_other s ops ls 0 a0 (noDst_spec h1)).trans h2))
      refine wpOp_mono ?_ (wpOp_plain ho (noGuard_spec hgd ho) hwp)
      rintro a' w' ⟨v, rfl, hv, hb⟩
      refine ⟨upd vals i v, ?_, ⟨hB.trans (hb.mono (Nat.le_trans hBs hB.size)), hSb _ _ hS hb⟩, closed_set ho hcl haft hli, fun j hj hzj => ?_, fun k hk => ?_, fun hno => ?_⟩
      · have := putAll_set (vals := vals) v ops ls 0 a0 i o hd ho hli
        rw [Nat.zero_add] at this
        exact this.symm
      · by_cases e : j = i
        · subst e; rw [upd_same]; exact ⟨_, hv⟩
        · rw [upd_ne e]; rw [set_ne (Ne.symm e)] at hj; exact hc j hj hzj
      · rw [set_ne (Ne.symm (hz k hk))]; exact (hr k hk).keep hb
      · have hno' : ∀ k, k < m → ls[Z k]? ≠ some true := fun k hk => by have := hno k hk; rwa [set_ne (Ne.symm (hz k hk))] at this
        obtain ⟨h1, h2⟩ := hn hno'
        refine ⟨below_step h1 hb, fun j hj => ?_⟩
        by_cases e : j = i
        · subst e; rw [upd_same]; exact hv
        · rw [upd_ne e]; rw [set_ne (Ne.symm e)] at hj; exact hst _ _ _ _ (h2 j hj) hb
    · obtain ⟨k, hk, rfl⟩ : ∃ k, k < m ∧ Z k = i := Classical.byContradiction fun h => hz fun k hk e => h ⟨k, hk, e⟩
      obtain ⟨⟨o', oX, ho', hop, hex, hoX, hdX⟩, hnd, hsz, hinfo⟩ := stoB_spec (hZ k hk)
      obtain rfl : o' = o := by rw [ho] at ho'; exact (Option.some.inj ho').symm
      obtain ⟨hge, hp, _, hX, hXz, hdis⟩ := hZd k hk
      obtain ⟨e, he, hb, heX⟩ := hex
      have hlX := haft e he hb
      rw [heX] at hlX
      have hx := eval_tmp ((putAll_other (vals := vals) (p k) ops ls 0 a0 (noDst_spec hnd)).trans hp)
      have hy := eval_tmp (putAll_get (vals := vals) (sx k) ops ls 0 a0 (X k) oX hd hoX hdX hlX hsz)
      obtain ⟨wx, hcx⟩ := hc _ hlX hXz
      rw [Nat.zero_add, hX _ _ hcx] at hy
      have hB2 := hr k hk
      have hnz : ¬ ls[Z k]? = some true := fun h => by rw [hli] at h; cases h
      rw [if_neg hnz] at hB2
      refine wpOp_plain ho (noGuard_spec hgd ho) (wp_store_arr (T k) _ _ hop (gz k) hx _ hy _ (T k) hB2 (by rw [u8s_size]; exact hinfo) (by rw [u8s_size, u8s_size]) (u8s_oneCell _ _) ?_)
      refine ⟨upd vals (Z k) undef, ?_, ⟨below_setRow hB hge _, hSs k hk _ _ hS⟩, closed_set ho hcl haft hli, fun j hj hzj => ?_, fun k' hk' => ?_, fun hno => ?_⟩
      · have := putAll_set (vals := vals) undef ops ls 0 a0 (Z k) o' hd ho hli
        rw [Nat.zero_add] at this
        exact this.symm
      · have e1 : j ≠ Z k := fun h => hzj k hk h.symm
        rw [upd_ne e1]; rw [set_ne (Ne.symm e1)] at hj; exact hc j hj hzj
      · by_cases e1 : k = k'
        · subst e1
          rw [set_same hli, if_pos rfl]
          exact hB2.setRow_same
        · obtain ⟨h1, h2⟩ := hdis k' hk' e1
          rw [set_ne h2]
          exact (hr k' hk').setRow_other (Ne.symm h1)
      · exact absurd (set_same hli) (hno k hk)
  · rintro ls a w' hl hall ⟨vals, rfl, ⟨hB, hS⟩, hcl, hc, hr, hn⟩
    have : ls = List.replicate ops.length true := by
      apply List.ext_getElem?
      intro i
      by_cases h : i < ops.length
      · rw [hall i h, List.getElem?_replicate, if_pos h]
      · rw [List.getElem?_eq_none (by omega), List.getElem?_eq_none (by simp; omega)]
    subst this
    refine hend vals w' hB hS (fun h0 => ?_) (fun i hi hz => hc i (hall i hi) hz) (fun k hk => ?_)
    · obtain ⟨h1, h2⟩ := hn fun k hk => absurd hk (by omega)
      exact ⟨h1, fun i hi => h2 i (hall i hi)⟩
    · have h3 := hr k hk
      obtain ⟨⟨oZ, _, hoZ, _⟩, _⟩ := stoB_spec (hZ k hk)
      rw [if_pos (hall _ (List.getElem?_eq_some_iff.1 hoZ).1)] at h3
      exact h3
  · have hno : ∀ j, (List.replicate ops.length false)[j]? ≠ some true := fun j h => by
      rw [List.getElem?_replicate] at h
      split at h <;> cases h
    have hz : putAll ops (List.replicate ops.length false) (fun _ => undef) 0 a0 = a0 := by
      have key : ∀ (os : List Oper) (k : Nat) (a : Act), putAll os (List.replicate os.length false) (fun _ => undef) k a = a := by
        intro os
        induction os with
        | nil => intro k a; unfold putAll; rfl
        | cons o os ih => intro k a; rw [List.length_cons, List.replicate_succ]; unfold putAll; rw [if_neg (by simp)]; exact ih (k + 1) a
      exact key ops 0 a0
    refine ⟨fun _ => undef, hz.symm, ⟨hW.drew, hS0⟩, fun i o _ h => absurd h (hno i), fun j h => absurd h (hno j), fun k hk => ?_, fun _ => ⟨(Below.refl _ _).drew, fun j h => absurd h (hno j)⟩⟩
    rw [if_neg (hno _)]
    exact (hZd k hk).2.2.1.drew

theorem wp_build_zeroB {o : Oper} {a : Act} {w : World} (t n e : Nat) (hop : o.op = .build t #[]) (ht : P.underlying t = some (.array n e)) (hs : (P.info? e).map (·.size) = some 1)
    (hz : (P.info? t).bind (·.zero) = some (.agg (u8s n fun _ => 0))) : o.wp P a w (fun a' w' => a' = a.put o.dst (.agg (u8s n fun _ => 0)) ∧ Below w.heap.size w w') Q := by
  obtain ⟨i, hi, hz⟩ := Option.bind_eq_some_iff.1 hz
  obtain ⟨ie, hie, hse⟩ := Option.map_eq_some_iff.1 hs
  unfold Oper.wp execOp
  simp [hop, Instr.build, zeroValue, typeInfo, hi, hz, Sem.run_bind, Value.cells, run_underlying ht w, sizeOf, hie, Instr.fill, Oper.upon]
  exact Below.refl _ _
variable {o : Oper} {a : Act} {w : World} {C : Value → World → Prop}
theorem wpv_of {c : Value} (h : o.wp P a w (fun a' w' => a' = a.put o.dst c ∧ Below w.heap.size w w') Q) (hc : ∀ w', Below w.heap.size w w' → C c w') : WpV P o a w C Q :=
  Oper.wp_mono (fun _ w' h => ⟨c, h.1, hc w' h.2, h.2⟩) h
theorem wpv_call (k : Nat) (as : List Operand) (ts : Array TypeId) (hop : o.op = .call { callee := .value (.func k), args := as.toArray, argTypes := ts }) (vs : List Value) (hvs : as.map a.eval = vs)
    (hk : ∀ args w, (callFunc k args).run P w = .ok (.enter k args) w) (hc : Calls P k vs.toArray w fun e w' => ∃ v, e = .returned v ∧ C v w' ∧ Below w.heap.size w w') : WpV P o a w C Q :=
  wp_callF k as ts hop vs hvs hk (hc.mono fun _ _ ⟨v, h1, h2, h3⟩ => ⟨v, h1, v, rfl, h2, h3⟩)
end
end Go.Proofs.Ythkkicanockhgaa

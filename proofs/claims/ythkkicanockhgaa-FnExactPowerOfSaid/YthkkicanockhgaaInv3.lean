/- A region that draws its order: the rule for constants, calls and results' variables. No program in sight. -/
import Derived.Test.YthkkicanockhgaaInv2
namespace Go.Proofs.Ythkkicanockhgaa
open Go.RowKit
section
variable {P : Program} {Q : Exit → Act → World → Prop}

theorem wp_alloc_arr {o : Oper} {a : Act} {w : World} {K : Act → World → Prop} (t : TypeId) (hop : o.op = .alloc t) (cs : Array Value) (hz : (P.info? t).bind (·.zero) = some (.agg cs))
    (h : K (a.put o.dst (.pointer (some ⟨w.heap.size, 0, none⟩))) (w.alloc (.cells cs t))) : o.wp P a w K Q := by
  obtain ⟨i, hi, hz⟩ := Option.bind_eq_some_iff.1 hz
  unfold Oper.wp execOp
  simp [hop, Instr.alloc, zeroValue, typeInfo, hi, hz, newVar, newRow, newObj, Sem.run_bind, Value.cells, Oper.upon]
  exact h
theorem wp_store_arr {o : Oper} {a : Act} {w : World} {K : Act → World → Prop} (t : TypeId) (x y : Operand) (hop : o.op = .store t x y) (g : Nat) (hx : a.eval x = .pointer (some ⟨g, 0, none⟩))
    (cs : Array Value) (hy : a.eval y = .agg cs) (old : Array Value) (T : TypeId) (hb : Blk w g old T) (hs : (P.info? t).map (·.size) = some cs.size) (ho : old.size = cs.size)
    (h1 : cs.all (·.oneCell') = true) (h : K (a.put o.dst undef) (w.setRow g cs)) : o.wp P a w K Q := by
  have hr := run_storeCells_from (P := P) g T cs.toList 0 old w hb (by simp [ho]) (fun v hv => (Array.all_eq_true_iff_forall_mem.1 h1) v (by simpa using hv))
  simp only [List.take_zero, List.nil_append, Array.toArray_toList] at hr
  obtain ⟨i, hi, hsz⟩ := Option.map_eq_some_iff.1 hs
  unfold Oper.wp execOp
  simp only [hop, hx, hy, Instr.storeAt, Instr.sureAddr, storeVar, sizeOf, typeInfo, Value.cells]
  simp [Sem.run_bind, hi, hsz, hr, Oper.upon]
  exact h
theorem eval_tmp {a : Act} {s : Nat} {v : Value} (h : a.tmps[s]? = some v) : a.eval (.tmp s) = v := by
  simp [Act.eval, h]
/-- The invariant: constants C, results' variables laid by operation A k and written by Z k with r k. -/
def LI (P : Program) (ops : List Oper) (a0 : Act) (Base : World → Prop) (base : Nat) (C : Nat → Option Value) (m : Nat) (A Z n : Nat → Nat) (r : Nat → Nat → Int) (T : Nat → TypeId) (ls : List Bool) (a : Act) (w : World) : Prop :=
  ∃ vals, a = putAll ops ls vals 0 a0 ∧ Base w ∧ (∀ j c, C j = some c → ls[j]? = some true → vals j = c) ∧
    (∀ k, k < m → ls[A k]? = some true → ∃ g, vals (A k) = .pointer (some ⟨g, 0, none⟩) ∧ base ≤ g ∧ Blk w g (u8s (n k) (if ls[Z k]? = some true then r k else fun _ => 0)) (T k)) ∧
    (∀ k k', k < m → k' < m → k ≠ k' → ls[A k]? = some true → ls[A k']? = some true → vals (A k) ≠ vals (A k')) ∧
    (∀ k, k < m → ls[Z k]? = some true → ls[A k]? = some true)
theorem wpOp_plain {ops : List Oper} {i : Nat} {o : Oper} {a : Act} {w : World} {K : Act → World → Prop} (ho : ops[i]? = some o) (hg : o.guard = none) (h : o.wp P a w K Q) : wpOp P ops.toArray Q i K a w := by
  unfold wpOp
  have h1 : ops.toArray[i]? = some o := by simpa using ho
  have h2 : Region.wanted o (yielded ops.toArray a.tmps) = true := by simp [Region.wanted, hg]
  simp only [h1, h2, if_true]
  exact .inl h
theorem set_ne {ls : List Bool} {i j : Nat} (h : i ≠ j) : (ls.set i true)[j]? = ls[j]? := by rw [List.getElem?_set, if_neg h]
theorem set_same {ls : List Bool} {i : Nat} {b : Bool} (h : ls[i]? = some b) : (ls.set i true)[i]? = some true := by
  have : i < ls.length := (List.getElem?_eq_some_iff.1 h).1
  rw [List.getElem?_set, if_pos rfl, if_pos this]
theorem upd_ne {vals : Nat → Value} {i j : Nat} {v : Value} (h : j ≠ i) : upd vals i v j = vals j := by unfold upd; rw [if_neg h]
theorem upd_same {vals : Nat → Value} {i : Nat} {v : Value} : upd vals i v i = v := by unfold upd; rw [if_pos rfl]

theorem law_region {ops : List Oper} {id : Nat} {a0 : Act} {w : World} (hm : P.follows .mixedOrders = true) (hf : fwdB ops = true) (hd : distB ops = true)
    (Base : World → Prop) (base : Nat) (hBb : ∀ w w', Base w → Below w.heap.size w w' → Base w') (hBs : ∀ w g cs, Base w → base ≤ g → Base (w.setRow g cs)) (hBd : ∀ w, Base w → base ≤ w.heap.size)
    (C : Nat → Option Value) (m : Nat) (A Z X pA sx n : Nat → Nat) (r : Nat → Nat → Int) (T : Nat → TypeId)
    (hcls : ∀ i o, ops[i]? = some o → (∃ c, C i = some c) ∨ (∃ k, k < m ∧ i = A k) ∨ (∃ k, k < m ∧ i = Z k))
    (hA : ∀ k, k < m → C (A k) = none ∧ C (Z k) = none ∧ ∀ k', k' < m → A k ≠ Z k' ∧ (A k = A k' → k = k') ∧ (Z k = Z k' → k = k'))
    (hAop : ∀ k, k < m → ∃ o, ops[A k]? = some o ∧ o.op = .alloc (T k) ∧ o.dst = some (pA k) ∧ o.guard = none ∧ (P.info? (T k)).bind (·.zero) = some (.agg (u8s (n k) fun _ => 0)) ∧ pA k < a0.tmps.size)
    (hZop : ∀ k, k < m → ∃ o oX, ops[Z k]? = some o ∧ o.op = .store (T k) (.tmp (pA k)) (.tmp (sx k)) ∧ o.guard = none ∧ (∃ e ∈ o.after, Region.binds .any e = true ∧ e.on = A k) ∧ (∃ e ∈ o.after, Region.binds .any e = true ∧ e.on = X k) ∧
      ops[X k]? = some oX ∧ oX.dst = some (sx k) ∧ C (X k) = some (.agg (u8s (n k) (r k))) ∧ sx k < a0.tmps.size ∧ (P.info? (T k)).map (·.size) = some (n k))
    (hC : ∀ i o c, ops[i]? = some o → C i = some c → ∀ a w, Base w → a.tmps.size = a0.tmps.size →
      (∀ j oj cj s, ops[j]? = some oj → oj.dst = some s → C j = some cj → (∃ e ∈ o.after, Region.binds .any e = true ∧ e.on = j) → s < a0.tmps.size → a.tmps[s]? = some cj) →
      (∀ s, (∀ o ∈ ops, o.dst ≠ some s) → a.tmps[s]? = a0.tmps[s]?) → o.guard = none ∧ o.wp P a w (fun a' w' => a' = a.put o.dst c ∧ Below w.heap.size w w') Q)
    (h0 : Base w.drew)
    (hend : ∀ (vals : Nat → Value) w', Base w' → (∀ i c, i < ops.length → C i = some c → vals i = c) → (∀ k, k < m → ∃ g, vals (A k) = .pointer (some ⟨g, 0, none⟩) ∧ base ≤ g ∧ Blk w' g (u8s (n k) (r k)) (T k)) →
      ∀ ls, (∀ i, i < ops.length → ls[i]? = some true) → ls.length = ops.length → Q .normal (putAll ops ls vals 0 a0) w') :
    (Code.region id ops.toArray true).wp P Q a0 w := by
  refine region_inv hm hf (LI P ops a0 Base base C m A Z n r T) ?_ ?_ ?_
  · rintro i o ho ls a w hl hli haft ⟨vals, rfl, hB, hc, hr, hne, hza⟩
    rcases hcls i o ho with ⟨c, hci⟩ | ⟨k, hk, rfl⟩ | ⟨k, hk, rfl⟩
    · obtain ⟨hg, hwp⟩ := hC i o c ho hci (putAll ops ls vals 0 a0) w hB (putAll_size ops ls 0 a0)
        (fun j oj cj s hj hs hcj hex hsz => by
          obtain ⟨e, he, hb, rfl⟩ := hex
          have h1 := haft e he hb
          rw [putAll_get s ops ls 0 a0 e.on oj hd hj hs h1 hsz, Nat.zero_add, hc e.on cj hcj h1])
        (fun s hs => putAll_other s ops ls 0 a0 hs)
      refine wpOp_mono ?_ (wpOp_plain ho hg hwp)
      rintro a' w' ⟨rfl, hb⟩
      have hAi : ∀ k, k < m → A k ≠ i := fun k hk e => by rw [← e, (hA k hk).1] at hci; cases hci
      have hZi : ∀ k, k < m → Z k ≠ i := fun k hk e => by rw [← e, (hA k hk).2.1] at hci; cases hci
      refine ⟨upd vals i c, ?_, hBb _ _ hB hb, fun j cj hcj hj => ?_, fun k hk hj => ?_, fun k k' hk hk' hkk h1 h2 => ?_, fun k hk h1 => ?_⟩
      · have := putAll_set (vals := vals) c ops ls 0 a0 i o hd ho hli
        rw [Nat.zero_add] at this
        exact this.symm
      · by_cases e : j = i
        · subst e; rw [upd_same]; rw [hci] at hcj; exact Option.some.inj hcj
        · rw [upd_ne e]; rw [set_ne (Ne.symm e)] at hj; exact hc j cj hcj hj
      · rw [set_ne (Ne.symm (hAi k hk))] at hj
        obtain ⟨g, h1, h2, h3⟩ := hr k hk hj
        rw [upd_ne (hAi k hk), set_ne (Ne.symm (hZi k hk))]
        exact ⟨g, h1, h2, h3.keep hb⟩
      · rw [set_ne (Ne.symm (hAi k hk))] at h1
        rw [set_ne (Ne.symm (hAi k' hk'))] at h2
        rw [upd_ne (hAi k hk), upd_ne (hAi k' hk')]
        exact hne k k' hk hk' hkk h1 h2
      · rw [set_ne (Ne.symm (hZi k hk))] at h1
        rw [set_ne (Ne.symm (hAi k hk))]
        exact hza k hk h1
    · obtain ⟨o', ho', hop, hdst, hg, hz, hsz⟩ := hAop k hk
      obtain rfl : o' = o := by rw [ho] at ho'; exact (Option.some.inj ho').symm
      refine wpOp_plain ho hg (wp_alloc_arr (T k) hop _ hz ?_)
      refine ⟨upd vals (A k) (.pointer (some ⟨w.heap.size, 0, none⟩)), ?_, hBb _ _ hB (below_new _ _), fun j cj hcj hj => ?_, fun k' hk' hj => ?_, fun k1 k2 hk1 hk2 hkk h1 h2 => ?_, fun k' hk' h1 => ?_⟩
      · have := putAll_set (vals := vals) (.pointer (some ⟨w.heap.size, 0, none⟩)) ops ls 0 a0 (A k) o' hd ho hli
        rw [Nat.zero_add] at this
        exact this.symm
      · have e : j ≠ A k := fun e => by rw [e, (hA k hk).1] at hcj; cases hcj
        rw [upd_ne e]; rw [set_ne (Ne.symm e)] at hj; exact hc j cj hcj hj
      · have eZ : A k ≠ Z k' := ((hA k hk).2.2 k' hk').1
        by_cases e : k' = k
        · subst e
          have hnz : ¬ ls[Z k']? = some true := fun h => by rw [hza k' hk h] at hli; cases hli
          rw [upd_same, set_ne eZ, if_neg hnz]
          exact ⟨_, rfl, hBd _ hB, Blk.new _ _ _⟩
        · have eA : A k' ≠ A k := fun h => e (((hA k' hk').2.2 k hk).2.1 h)
          rw [set_ne (Ne.symm eA)] at hj
          obtain ⟨g, h1, h2, h3⟩ := hr k' hk' hj
          rw [upd_ne eA, set_ne eZ]
          exact ⟨g, h1, h2, h3.alloc _⟩
      · have key : ∀ k', k' < m → k' ≠ k → (ls.set (A k) true)[A k']? = some true → upd vals (A k) (.pointer (some ⟨w.heap.size, 0, none⟩)) (A k') ≠ .pointer (some ⟨w.heap.size, 0, none⟩) := fun k' hk' e hj => by
          have eA : A k' ≠ A k := fun h => e (((hA k' hk').2.2 k hk).2.1 h)
          rw [set_ne (Ne.symm eA)] at hj
          obtain ⟨g, h1, h2, h3⟩ := hr k' hk' hj
          rw [upd_ne eA, h1]
          intro h
          have := h3.lt
          simp at h
          first | done | omega
        by_cases e1 : k1 = k
        · subst e1
          rw [upd_same]
          exact fun h => key k2 hk2 (Ne.symm hkk) h2 h.symm
        · by_cases e2 : k2 = k
          · subst e2
            have := key k1 hk1 e1 h1
            rw [upd_same]
            exact this
          · have eA1 : A k1 ≠ A k := fun h => e1 (((hA k1 hk1).2.2 k hk).2.1 h)
            have eA2 : A k2 ≠ A k := fun h => e2 (((hA k2 hk2).2.2 k hk).2.1 h)
            rw [set_ne (Ne.symm eA1)] at h1
            rw [set_ne (Ne.symm eA2)] at h2
            rw [upd_ne eA1, upd_ne eA2]
            exact hne k1 k2 hk1 hk2 hkk h1 h2
      · have eZ : A k ≠ Z k' := ((hA k hk).2.2 k' hk').1
        rw [set_ne eZ] at h1
        have h2 := hza k' hk' h1
        by_cases e : A k = A k'
        · rw [← e]; exact set_same hli
        · rw [set_ne e]; exact h2
    · obtain ⟨o', oX, ho', hop, hg, hexA, hexX, hoX, hdX, hCX, hsz, hinfo⟩ := hZop k hk
      obtain rfl : o' = o := by rw [ho] at ho'; exact (Option.some.inj ho').symm
      obtain ⟨oA, hoA, _, hdA, _, _, hszA⟩ := hAop k hk
      obtain ⟨e, he, hb, heA⟩ := hexA
      have hlA := haft e he hb
      rw [heA] at hlA
      obtain ⟨e', he', hb', heX⟩ := hexX
      have hlX := haft e' he' hb'
      rw [heX] at hlX
      obtain ⟨g, hv, hge, hB2⟩ := hr k hk hlA
      have hnz : ¬ ls[Z k]? = some true := fun h => by rw [hli] at h; cases h
      rw [if_neg hnz] at hB2
      have hx := eval_tmp (putAll_get (vals := vals) (pA k) ops ls 0 a0 (A k) oA hd hoA hdA hlA hszA)
      rw [Nat.zero_add, hv] at hx
      have hy := eval_tmp (putAll_get (vals := vals) (sx k) ops ls 0 a0 (X k) oX hd hoX hdX hlX hsz)
      rw [Nat.zero_add, hc _ _ hCX hlX] at hy
      refine wpOp_plain ho hg (wp_store_arr (T k) _ _ hop g hx _ hy _ (T k) hB2 (by rw [u8s_size]; exact hinfo) (by rw [u8s_size, u8s_size]) (u8s_oneCell _ _) ?_)
      refine ⟨upd vals (Z k) undef, ?_, hBs _ _ _ hB hge, fun j cj hcj hj => ?_, fun k' hk' hj => ?_, fun k1 k2 hk1 hk2 hkk h1 h2 => ?_, fun k' hk' h1 => ?_⟩
      · have := putAll_set (vals := vals) undef ops ls 0 a0 (Z k) o' hd ho hli
        rw [Nat.zero_add] at this
        exact this.symm
      · have e1 : j ≠ Z k := fun e1 => by rw [e1, (hA k hk).2.1] at hcj; cases hcj
        rw [upd_ne e1]; rw [set_ne (Ne.symm e1)] at hj; exact hc j cj hcj hj
      · have eZ : A k' ≠ Z k := ((hA k' hk').2.2 k hk).1
        rw [set_ne (Ne.symm eZ)] at hj
        rw [upd_ne eZ]
        by_cases e1 : k' = k
        · subst e1
          refine ⟨g, hv, hge, ?_⟩
          rw [set_same hli, if_pos rfl]
          exact hB2.setRow_same
        · obtain ⟨g', h1, h2, h3⟩ := hr k' hk' hj
          have eZ2 : Z k' ≠ Z k := fun h => e1 (((hA k' hk').2.2 k hk).2.2 h)
          rw [set_ne (Ne.symm eZ2)]
          refine ⟨g', h1, h2, h3.setRow_other fun h => ?_⟩
          subst h
          exact hne k' k hk' hk e1 hj hlA (by rw [h1, hv])
      · have eZ1 : A k1 ≠ Z k := ((hA k1 hk1).2.2 k hk).1
        have eZ2 : A k2 ≠ Z k := ((hA k2 hk2).2.2 k hk).1
        rw [set_ne (Ne.symm eZ1)] at h1
        rw [set_ne (Ne.symm eZ2)] at h2
        rw [upd_ne eZ1, upd_ne eZ2]
        exact hne k1 k2 hk1 hk2 hkk h1 h2
      · have eZ1 : A k' ≠ Z k := ((hA k' hk').2.2 k hk).1
        rw [set_ne (Ne.symm eZ1)]
        by_cases e1 : Z k = Z k'
        · have := ((hA k hk).2.2 k' hk').2.2 e1
          subst this
          exact hlA
        · rw [set_ne e1] at h1
          exact hza k' hk' h1
  · rintro ls a w' hl hall ⟨vals, rfl, hB, hc, hr, _, _⟩
    refine hend vals w' hB (fun i c hi hci => hc i c hci (hall i hi)) (fun k hk => ?_) ls hall hl
    obtain ⟨oA, hoA, _⟩ := hAop k hk
    obtain ⟨oZ, _, hoZ, _⟩ := hZop k hk
    obtain ⟨g, h1, h2, h3⟩ := hr k hk (hall _ (List.getElem?_eq_some_iff.1 hoA).1)
    rw [if_pos (hall _ (List.getElem?_eq_some_iff.1 hoZ).1)] at h3
    exact ⟨g, h1, h2, h3⟩
  · have hno : ∀ j, (List.replicate ops.length false)[j]? ≠ some true := fun j h => by
      rw [List.getElem?_replicate] at h
      split at h <;> cases h
    have hz : putAll ops (List.replicate ops.length false) (fun _ => undef) 0 a0 = a0 := by
      have key : ∀ (os : List Oper) (k : Nat) (a : Act), putAll os (List.replicate os.length false) (fun _ => undef) k a = a := by
        intro os
        induction os with
        | nil => intro k a; unfold putAll; rfl
        | cons o os ih => intro k a; rw [List.length_cons, List.replicate_succ]; unfold putAll; rw [if_neg (by simp)]; exact ih (k + 1) a
      exact key ops 0 a0
    exact ⟨fun _ => undef, hz.symm, h0, fun j c _ h => absurd h (hno j), fun k _ h => absurd h (hno _), fun _ _ _ _ _ h _ => absurd h (hno _), fun k _ h => absurd h (hno _)⟩
/-- A slot that no operation of the region writes. -/
def noDst (ops : List Oper) (s : Nat) : Bool := ops.all fun o => o.dst != some s
theorem noDst_spec {ops : List Oper} {s : Nat} (h : noDst ops s = true) : ∀ o ∈ ops, o.dst ≠ some s := fun o ho => by
  have := List.all_eq_true.1 h o ho
  simpa using this
theorem wp_val' {o : Oper} {a : Act} {w : World} (v : Value) (h : (execOp a.eval o).run P w = .ok (.value v) w) : o.wp P a w (fun a' w' => a' = a.put o.dst v ∧ Below w.heap.size w w') Q := by
  unfold Oper.wp
  rw [h]
  exact ⟨rfl, Below.refl _ _⟩
theorem wp_move {o : Oper} {a : Act} {w : World} (x : Operand) (v : Value) (ho : o.op = .move x) (hx : a.eval x = v) : o.wp P a w (fun a' w' => a' = a.put o.dst v ∧ Below w.heap.size w w') Q :=
  wp_val' v (by unfold execOp; simp [ho, hx])
theorem wp_assign {o : Oper} {a : Act} {w : World} (x : Operand) (v : Value) (ho : o.op = .assign x) (hx : a.eval x = v) : o.wp P a w (fun a' w' => a' = a.put o.dst v ∧ Below w.heap.size w w') Q :=
  wp_val' v (by unfold execOp; simp [ho, hx])
theorem wp_extract {o : Oper} {a : Act} {w : World} (x : Operand) (k : Nat) (vs : Array Value) (v : Value) (ho : o.op = .extract x k) (hx : a.eval x = .tuple vs) (hv : vs[k]? = some v) : o.wp P a w (fun a' w' => a' = a.put o.dst v ∧ Below w.heap.size w w') Q :=
  wp_val' v (by unfold execOp; simp [ho, hx, hv, Instr.extract])
theorem wp_loadB {o : Oper} {a : Act} {w : World} (ty : TypeId) (x : Operand) (ho : o.op = .load ty x) (g : Nat) (hx : a.eval x = .pointer (some ⟨g, 0, none⟩)) (t : TypeId) (cs : Array Value) (hb : Blk w g cs t) (n e : Nat)
    (hu : P.underlying ty = some (.array n e)) (hi : (P.info? ty).map (·.size) = some cs.size) : o.wp P a w (fun a' w' => a' = a.put o.dst (.agg cs) ∧ Below w.heap.size w w') Q :=
  wp_load_row ty x ho g hx t cs _ _ hb hu rfl hi ⟨rfl, Below.refl _ _⟩
theorem wp_callB {o : Oper} {a : Act} {w : World} (k : Nat) (as : List Operand) (ts : Array TypeId) (hop : o.op = .call { callee := .value (.func k), args := as.toArray, argTypes := ts }) (vs : List Value) (hvs : as.map a.eval = vs)
    (hk : ∀ args w, (callFunc k args).run P w = .ok (.enter k args) w) (v : Value) (hc : Calls P k vs.toArray w fun e w' => e = .returned v ∧ Below w.heap.size w w') : o.wp P a w (fun a' w' => a' = a.put o.dst v ∧ Below w.heap.size w w') Q :=
  wp_callF k as ts hop vs hvs hk (hc.mono fun e w' h => ⟨v, h.1, rfl, h.2⟩)
end
end Go.Proofs.Ythkkicanockhgaa

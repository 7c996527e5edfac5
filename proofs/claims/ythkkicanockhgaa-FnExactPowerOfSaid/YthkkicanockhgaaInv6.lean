/- Single operations of a region that draws its order: an element's place, a cell, a row of one number, a number's conversion. No program in sight. -/
import Derived.Test.YthkkicanockhgaaInv5
set_option linter.unusedVariables false
set_option linter.unusedSimpArgs false
namespace Go.Proofs.Ythkkicanockhgaa
open Go.RowKit
theorem putAll_notyet {vals : Nat → Value} (s : Nat) : ∀ (os : List Oper) (ls : List Bool) (k : Nat) (a : Act) (j : Nat) (o : Oper), distB os = true → os[j]? = some o → o.dst = some s → ls[j]? ≠ some true →
    (putAll os ls vals k a).tmps[s]? = a.tmps[s]?
  | [], _, _, _, j, _, _, h, _, _ => by simp at h
  | _ :: _, [], _, _, _, _, _, _, _, _ => by unfold putAll; rfl
  | o' :: os, b :: ls, k, a, 0, o, hd, ho, hs, hl => by
    obtain ⟨h1, h2⟩ := distB_cons hd
    have e1 : o' = o := by simpa using ho
    subst e1
    unfold putAll
    rw [putAll_other s os ls (k + 1) _ (h1 s hs)]
    cases b
    · rfl
    · exact absurd rfl hl
  | o' :: os, b :: ls, k, a, j + 1, o, hd, ho, hs, hl => by
    obtain ⟨h1, h2⟩ := distB_cons hd
    unfold putAll
    have := putAll_notyet (vals := vals) s os ls (k + 1) (if b then a.put o'.dst (vals k) else a) j o h2 (by simpa using ho) hs (by simpa using hl)
    rw [this]
    cases b
    · rfl
    · exact put_get_ne a o'.dst _ s fun e => h1 s e o (List.mem_of_getElem? (by simpa using ho)) hs
section
variable {P : Program} {Q : Exit → Act → World → Prop}
theorem gen_region2 {ops : List Oper} {id : Nat} {a0 : Act} {ws w : World} {B : Nat} (hm : P.follows .mixedOrders = true) (hf : fwdB ops = true) (hd : distB ops = true) (hgd : noGuard ops = true)
    (C : Nat → Value → World → Prop) (late : Nat → Bool) (m : Nat) (Z X p sx gz n : Nat → Nat) (r r0 : Nat → Nat → Int) (T : Nat → TypeId)
    (hW : Below B ws w) (hBs : B ≤ ws.heap.size)
    (S : World → Prop) (hS0 : S w.drew) (hSb : ∀ w1 w2, S w1 → Below w1.heap.size w1 w2 → S w2) (hSs : ∀ k, k < m → ∀ w1 cs, S w1 → S (w1.setRow (gz k) cs))
    (hst : ∀ i v w1 w2, C i v w1 → Below w1.heap.size w1 w2 → C i v w2)
    (hZ : ∀ k, k < m → stoB P ops a0.tmps.size (Z k) (X k) (p k) (sx k) (n k) (T k) = true)
    (hZd : ∀ k, k < m → B ≤ gz k ∧ a0.tmps[p k]? = some (.pointer (some ⟨gz k, 0, none⟩)) ∧ Blk w (gz k) (u8s (n k) (r0 k)) (T k) ∧ (∀ v w', C (X k) v w' → v = .agg (u8s (n k) (r k))) ∧ (∀ k', k' < m → Z k' ≠ X k) ∧ ∀ k', k' < m → (k ≠ k' → gz k ≠ gz k' ∧ Z k ≠ Z k'))
    (hlate : lateB ops late m Z = true)
    (hC : ∀ i o, ops[i]? = some o → (∀ k, k < m → Z k ≠ i) → ∀ a w2, Below B ws w2 → S w2 → (late i = false → Below w.heap.size w w2) →
      (∀ j oj s, ops[j]? = some oj → oj.dst = some s → waits o j = true → decide (s < a0.tmps.size) = true → (∀ k, k < m → Z k ≠ j) → (∃ w', C j (a.eval (.tmp s)) w') ∧ (late i = false → C j (a.eval (.tmp s)) w2)) →
      (∀ s v, noDst ops s = true → a0.tmps[s]? = some v → a.eval (.tmp s) = v) →
      (∀ j oj s v, ops[j]? = some oj → oj.dst = some s → (clos ops ops.length [j]).contains i = true → a0.tmps[s]? = some v → a.eval (.tmp s) = v) → WpV P o a w2 (C i) Q)
    (hend : ∀ (vals : Nat → Value) w', Below B ws w' → S w' → (m = 0 → Below w.heap.size w w' ∧ ∀ i, i < ops.length → C i (vals i) w') → (∀ i, i < ops.length → (∀ k, k < m → Z k ≠ i) → ∃ w', C i (vals i) w') →
      (∀ k, k < m → Blk w' (gz k) (u8s (n k) (r k)) (T k)) → Q .normal (putAll ops (List.replicate ops.length true) vals 0 a0) w') :
    (Code.region id ops.toArray true).wp P Q a0 w := by
  refine region_inv hm hf (LG ops a0 ws w B S C m Z gz n r r0 T) ?_ ?_ ?_
  · rintro i o ho ls a w2 hl hli haft ⟨vals, rfl, ⟨hB, hS⟩, hcl, hc, hr, hn⟩
    by_cases hz : ∀ k, k < m → Z k ≠ i
    · have hnl : late i = false → ∀ k, k < m → ls[Z k]? ≠ some true := fun hh k hk hq => by
        have h1 := lateB_spec hlate hcl (List.getElem?_eq_some_iff.1 ho).1 hh hz hk hq
        rw [hli] at h1; cases h1
      have hwp := hC i o ho hz (putAll ops ls vals 0 a0) w2 hB hS (fun hh => (hn (hnl hh)).1)
        (fun j oj s hj hs hw hsz hzj => by
          obtain ⟨e, he, hb, rfl⟩ := waits_spec hw
          have h1 := haft e he hb
          have h2 := eval_tmp (putAll_get (vals := vals) s ops ls 0 a0 e.on oj hd hj hs h1 (of_decide_eq_true hsz))
          rw [Nat.zero_add] at h2
          rw [h2]
          exact ⟨hc _ h1 hzj, fun hh => (hn (hnl hh)).2 _ h1⟩)
        (fun s v h1 h2 => eval_tmp ((putAll_other s ops ls 0 a0 (noDst_spec h1)).trans h2))
        (fun j oj s v hj hs hcl2 h2 => by
          have hnj : ls[j]? ≠ some true := fun hq => by
            have h1 := clos_done hcl ops.length [j] (fun x hx => by rw [List.mem_singleton] at hx; rw [hx]; exact hq) i (by simpa using hcl2)
            rw [hli] at h1; cases h1
          exact eval_tmp ((putAll_notyet s ops ls 0 a0 j oj hd hj hs hnj).trans h2))
      refine wpOp_mono ?_ (wpOp_plain ho (noGuard_spec hgd ho) hwp)
      rintro a' w' ⟨v, rfl, hv, hb⟩
      refine ⟨upd vals i v, ?_, ⟨hB.trans (hb.mono (Nat.le_trans hBs hB.size)), hSb _ _ hS hb⟩, closed_set ho hcl haft hli, fun j hj hzj => ?_, fun k hk => ?_, fun hno => ?_⟩
      · have := putAll_set (vals := vals) v ops ls 0 a0 i o hd ho hli
        rw [Nat.zero_add] at this
        exact this.symm
      · by_cases e : j = i
        · subst e; rw [upd_same]; exact ⟨_, hv⟩
        · rw [upd_ne e]; rw [set_ne (Ne.symm e)] at hj; exact hc j hj hzj
      · rw [set_ne (Ne.symm (hz k hk))]; exact (hr k hk).keep hb
      · have hno' : ∀ k, k < m → ls[Z k]? ≠ some true := fun k hk => by have := hno k hk; rwa [set_ne (Ne.symm (hz k hk))] at this
        obtain ⟨h1, h2⟩ := hn hno'
        refine ⟨below_step h1 hb, fun j hj => ?_⟩
        by_cases e : j = i
        · subst e; rw [upd_same]; exact hv
        · rw [upd_ne e]; rw [set_ne (Ne.symm e)] at hj; exact hst _ _ _ _ (h2 j hj) hb
    · obtain ⟨k, hk, rfl⟩ : ∃ k, k < m ∧ Z k = i := Classical.byContradiction fun h => hz fun k hk e => h ⟨k, hk, e⟩
      obtain ⟨⟨o', oX, ho', hop, hex, hoX, hdX⟩, hnd, hsz, hinfo⟩ := stoB_spec (hZ k hk)
      obtain rfl : o' = o := by rw [ho] at ho'; exact (Option.some.inj ho').symm
      obtain ⟨hge, hp, _, hX, hXz, hdis⟩ := hZd k hk
      obtain ⟨e, he, hb, heX⟩ := hex
      have hlX := haft e he hb
      rw [heX] at hlX
      have hx := eval_tmp ((putAll_other (vals := vals) (p k) ops ls 0 a0 (noDst_spec hnd)).trans hp)
      have hy := eval_tmp (putAll_get (vals := vals) (sx k) ops ls 0 a0 (X k) oX hd hoX hdX hlX hsz)
      obtain ⟨wx, hcx⟩ := hc _ hlX hXz
      rw [Nat.zero_add, hX _ _ hcx] at hy
      have hB2 := hr k hk
      have hnz : ¬ ls[Z k]? = some true := fun h => by rw [hli] at h; cases h
      rw [if_neg hnz] at hB2
      refine wpOp_plain ho (noGuard_spec hgd ho) (wp_store_arr (T k) _ _ hop (gz k) hx _ hy _ (T k) hB2 (by rw [u8s_size]; exact hinfo) (by rw [u8s_size, u8s_size]) (u8s_oneCell _ _) ?_)
      refine ⟨upd vals (Z k) undef, ?_, ⟨below_setRow hB hge _, hSs k hk _ _ hS⟩, closed_set ho hcl haft hli, fun j hj hzj => ?_, fun k' hk' => ?_, fun hno => ?_⟩
      · have := putAll_set (vals := vals) undef ops ls 0 a0 (Z k) o' hd ho hli
        rw [Nat.zero_add] at this
        exact this.symm
      · have e1 : j ≠ Z k := fun h => hzj k hk h.symm
        rw [upd_ne e1]; rw [set_ne (Ne.symm e1)] at hj; exact hc j hj hzj
      · by_cases e1 : k = k'
        · subst e1
          rw [set_same hli, if_pos rfl]
          exact hB2.setRow_same
        · obtain ⟨h1, h2⟩ := hdis k' hk' e1
          rw [set_ne h2]
          exact (hr k' hk').setRow_other (Ne.symm h1)
      · exact absurd (set_same hli) (hno k hk)
  · rintro ls a w' hl hall ⟨vals, rfl, ⟨hB, hS⟩, hcl, hc, hr, hn⟩
    have : ls = List.replicate ops.length true := by
      apply List.ext_getElem?
      intro i
      by_cases h : i < ops.length
      · rw [hall i h, List.getElem?_replicate, if_pos h]
      · rw [List.getElem?_eq_none (by omega), List.getElem?_eq_none (by simp; omega)]
    subst this
    refine hend vals w' hB hS (fun h0 => ?_) (fun i hi hz => hc i (hall i hi) hz) (fun k hk => ?_)
    · obtain ⟨h1, h2⟩ := hn fun k hk => absurd hk (by omega)
      exact ⟨h1, fun i hi => h2 i (hall i hi)⟩
    · have h3 := hr k hk
      obtain ⟨⟨oZ, _, hoZ, _⟩, _⟩ := stoB_spec (hZ k hk)
      rw [if_pos (hall _ (List.getElem?_eq_some_iff.1 hoZ).1)] at h3
      exact h3
  · have hno : ∀ j, (List.replicate ops.length false)[j]? ≠ some true := fun j h => by
      rw [List.getElem?_replicate] at h
      split at h <;> cases h
    have hz : putAll ops (List.replicate ops.length false) (fun _ => undef) 0 a0 = a0 := by
      have key : ∀ (os : List Oper) (k : Nat) (a : Act), putAll os (List.replicate os.length false) (fun _ => undef) k a = a := by
        intro os
        induction os with
        | nil => intro k a; unfold putAll; rfl
        | cons o os ih => intro k a; rw [List.length_cons, List.replicate_succ]; unfold putAll; rw [if_neg (by simp)]; exact ih (k + 1) a
      exact key ops 0 a0
    refine ⟨fun _ => undef, hz.symm, ⟨hW.drew, hS0⟩, fun i o _ h => absurd h (hno i), fun j h => absurd h (hno j), fun k hk => ?_, fun _ => ⟨(Below.refl _ _).drew, fun j h => absurd h (hno j)⟩⟩
    rw [if_neg (hno _)]
    exact (hZd k hk).2.2.1.drew

end
section
variable {P : Program} {Q : Exit → Act → World → Prop} {o : Oper} {a : Act} {w : World}
theorem wp_index_row (t e : TypeId) (x i : Operand) (hop : o.op = .indexAddr t x i) (ht : P.underlying t = some (.slice e)) (hs : (P.info? e).map (·.size) = some 1) (b off n c k : Nat) (kd : IntKind)
    (hx : a.eval x = .slice (some ⟨b, off, none⟩) n c) (hi : a.eval i = .int kd (k : Int)) (hk : k < n) : o.wp P a w (fun a' w' => a' = a.put o.dst (.pointer (some ⟨b, off + k, none⟩)) ∧ Below w.heap.size w w') Q := by
  obtain ⟨ie, hie, hse⟩ := Option.map_eq_some_iff.1 hs
  unfold Oper.wp execOp
  simp [hop, hx, hi, Instr.indexAt, run_underlying ht w, asIntOf, Sem.run_bind, sizeOf, typeInfo, hie, hse, hk, Oper.upon, Addr.add]
  refine ⟨?_, Below.refl _ _⟩
  by_cases h0 : k = 0
  · subst h0; simp
  · simp [h0]
theorem wp_index_arr (t e N : Nat) (x i : Operand) (hop : o.op = .indexAddr t x i) (ht : P.underlying t = some (.array N e)) (hs : (P.info? e).map (·.size) = some 1) (b k : Nat) (kd : IntKind)
    (hx : a.eval x = .pointer (some ⟨b, 0, none⟩)) (hi : a.eval i = .int kd (k : Int)) (hk : k < N) : o.wp P a w (fun a' w' => a' = a.put o.dst (.pointer (some ⟨b, k, none⟩)) ∧ Below w.heap.size w w') Q := by
  obtain ⟨ie, hie, hse⟩ := Option.map_eq_some_iff.1 hs
  unfold Oper.wp execOp
  simp [hop, hx, hi, Instr.indexAt, run_underlying ht w, asIntOf, Sem.run_bind, sizeOf, typeInfo, hie, hse, hk, Oper.upon, Addr.add, Instr.sureAddr]
  refine ⟨?_, Below.refl _ _⟩
  by_cases h0 : k = 0
  · subst h0; simp
  · simp [h0]
theorem wp_load_cell (t : TypeId) (x : Operand) (hop : o.op = .load t x) (ad : Addr) (hx : a.eval x = .pointer (some ad)) (k : IntKind) (ht : P.underlying t = some (.int k)) (v : Value) (hc : w.cell? ad = some v) :
    o.wp P a w (fun a' w' => a' = a.put o.dst v ∧ Below w.heap.size w w') Q := by
  unfold Oper.wp execOp
  simp [hop, hx, Instr.loadAt, Instr.sureAddr, loadVar, isAgg, run_underlying ht w, Sem.run_bind, hc, Oper.upon]
  exact Below.refl _ _
theorem wpv_row_one (t e : TypeId) (x : Operand) (hop : o.op = .buildSlice t 1 #[(0, x)]) (ht : P.underlying t = some (.slice e)) (hs : (P.info? e).map (·.size) = some 1) (hz : (P.info? e).bind (·.zero) = some (.int .i64 0)) (v : Int) (hx : a.eval x = .int .i64 v) :
    WpV P o a w (fun u w' => ∃ g, u = .slice (some ⟨g, 0, none⟩) 1 1 ∧ w'.cell? ⟨g, 0, none⟩ = some (.int .i64 v)) Q := by
  obtain ⟨ie, hie, hse⟩ := Option.map_eq_some_iff.1 hs
  have hz2 : ie.zero = some (.int .i64 0) := by rw [hie] at hz; exact hz
  unfold WpV Oper.wp execOp
  simp [hop, hx, Instr.buildSlice, Sem.run_bind, run_underlying ht w, sizeOf, typeInfo, hie, hse, zeroValue, hz2, Instr.fill, newRow, newObj, Oper.upon, Value.cells]
  exact ⟨_, rfl, ⟨_, rfl, (Blk.new w ((Array.map (fun x => [Value.int IntKind.i64 0][x % 1]?.getD default) (Array.range 1)).setIfInBounds 0 (Value.int IntKind.i64 v)) e).cell 0 |>.trans (by simp)⟩, below_new _ _⟩
theorem wp_conv_u8 (s d : TypeId) (x : Operand) (hop : o.op = .convert s d x) (v : Int) (hx : a.eval x = .int .u8 v) (h0 : 0 ≤ v) (h1 : v ≤ 255) (hs : P.underlying s = some (.int .u8)) (hd : P.underlying d = some (.int .i64)) :
    o.wp P a w (fun a' w' => a' = a.put o.dst (.int .i64 v) ∧ Below w.heap.size w w') Q := by
  have hk : P.intKind d = .i64 := by simp [Program.intKind, hd]
  have h2 := run_convert_int (P := P) w s d .u8 v (by rw [hs]; rfl) (by rw [hk]; exact hd)
  have hw : IntKind.i64.wrap v = v := by rw [IntKind.wrap_i64]; omega
  rw [hk, hw] at h2
  unfold Oper.wp execOp
  simp [hop, hx, h2, Oper.upon]
  exact Below.refl _ _
end
section
variable {P : Program} {Q : Exit → Act → World → Prop}
theorem law_regionD {ops : List Oper} {id : Nat} {a0 : Act} {w : World} (hm : P.follows .mixedOrders = true) (hf : fwdB ops = true) (hd : distB ops = true)
    (Base : World → Prop) (base : Nat) (hBb : ∀ w w', Base w → Below w.heap.size w w' → Base w') (hBs : ∀ w g cs, Base w → base ≤ g → Base (w.setRow g cs)) (hBd : ∀ w, Base w → base ≤ w.heap.size)
    (C : Nat → Option Value) (m : Nat) (A Z X pA sx n : Nat → Nat) (r : Nat → Nat → Int) (T : Nat → TypeId)
    (hcls : ∀ i o, ops[i]? = some o → (∃ c, C i = some c) ∨ (∃ k, k < m ∧ i = A k) ∨ (∃ k, k < m ∧ i = Z k))
    (hA : ∀ k, k < m → C (A k) = none ∧ C (Z k) = none ∧ ∀ k', k' < m → A k ≠ Z k' ∧ (A k = A k' → k = k') ∧ (Z k = Z k' → k = k'))
    (hAop : ∀ k, k < m → ∃ o, ops[A k]? = some o ∧ o.op = .alloc (T k) ∧ o.dst = some (pA k) ∧ o.guard = none ∧ (P.info? (T k)).bind (·.zero) = some (.agg (u8s (n k) fun _ => 0)) ∧ pA k < a0.tmps.size)
    (hZop : ∀ k, k < m → ∃ o oX, ops[Z k]? = some o ∧ o.op = .store (T k) (.tmp (pA k)) (.tmp (sx k)) ∧ o.guard = none ∧ (∃ e ∈ o.after, Region.binds .any e = true ∧ e.on = A k) ∧ (∃ e ∈ o.after, Region.binds .any e = true ∧ e.on = X k) ∧
      ops[X k]? = some oX ∧ oX.dst = some (sx k) ∧ C (X k) = some (.agg (u8s (n k) (r k))) ∧ sx k < a0.tmps.size ∧ (P.info? (T k)).map (·.size) = some (n k))
    (hC : ∀ i o c, ops[i]? = some o → C i = some c → ∀ a w, Base w → a.tmps.size = a0.tmps.size →
      (∀ j oj cj s, ops[j]? = some oj → oj.dst = some s → C j = some cj → (∃ e ∈ o.after, Region.binds .any e = true ∧ e.on = j) → s < a0.tmps.size → a.tmps[s]? = some cj) →
      (∀ s, (∀ o ∈ ops, o.dst ≠ some s) → a.tmps[s]? = a0.tmps[s]?) → o.guard = none ∧ o.wp P a w (fun a' w' => a' = a.put o.dst c ∧ Below w.heap.size w w') Q)
    (h0 : Base w.drew)
    (hend : ∀ (vals : Nat → Value) w', Base w' → (∀ i c, i < ops.length → C i = some c → vals i = c) → (∀ k, k < m → ∃ g, vals (A k) = .pointer (some ⟨g, 0, none⟩) ∧ base ≤ g ∧ Blk w' g (u8s (n k) (r k)) (T k)) → (∀ k k', k < m → k' < m → k ≠ k' → vals (A k) ≠ vals (A k')) →
      ∀ ls, (∀ i, i < ops.length → ls[i]? = some true) → ls.length = ops.length → Q .normal (putAll ops ls vals 0 a0) w') :
    (Code.region id ops.toArray true).wp P Q a0 w := by
  refine region_inv hm hf (LI P ops a0 Base base C m A Z n r T) ?_ ?_ ?_
  · rintro i o ho ls a w hl hli haft ⟨vals, rfl, hB, hc, hr, hne, hza⟩
    rcases hcls i o ho with ⟨c, hci⟩ | ⟨k, hk, rfl⟩ | ⟨k, hk, rfl⟩
    · obtain ⟨hg, hwp⟩ := hC i o c ho hci (putAll ops ls vals 0 a0) w hB (putAll_size ops ls 0 a0)
        (fun j oj cj s hj hs hcj hex hsz => by
          obtain ⟨e, he, hb, rfl⟩ := hex
          have h1 := haft e he hb
          rw [putAll_get s ops ls 0 a0 e.on oj hd hj hs h1 hsz, Nat.zero_add, hc e.on cj hcj h1])
        (fun s hs => putAll_other s ops ls 0 a0 hs)
      refine wpOp_mono ?_ (wpOp_plain ho hg hwp)
      rintro a' w' ⟨rfl, hb⟩
      have hAi : ∀ k, k < m → A k ≠ i := fun k hk e => by rw [← e, (hA k hk).1] at hci; cases hci
      have hZi : ∀ k, k < m → Z k ≠ i := fun k hk e => by rw [← e, (hA k hk).2.1] at hci; cases hci
      refine ⟨upd vals i c, ?_, hBb _ _ hB hb, fun j cj hcj hj => ?_, fun k hk hj => ?_, fun k k' hk hk' hkk h1 h2 => ?_, fun k hk h1 => ?_⟩
      · have := putAll_set (vals := vals) c ops ls 0 a0 i o hd ho hli
        rw [Nat.zero_add] at this
        exact this.symm
      · by_cases e : j = i
        · subst e; rw [upd_same]; rw [hci] at hcj; exact Option.some.inj hcj
        · rw [upd_ne e]; rw [set_ne (Ne.symm e)] at hj; exact hc j cj hcj hj
      · rw [set_ne (Ne.symm (hAi k hk))] at hj
        obtain ⟨g, h1, h2, h3⟩ := hr k hk hj
        rw [upd_ne (hAi k hk), set_ne (Ne.symm (hZi k hk))]
        exact ⟨g, h1, h2, h3.keep hb⟩
      · rw [set_ne (Ne.symm (hAi k hk))] at h1
        rw [set_ne (Ne.symm (hAi k' hk'))] at h2
        rw [upd_ne (hAi k hk), upd_ne (hAi k' hk')]
        exact hne k k' hk hk' hkk h1 h2
      · rw [set_ne (Ne.symm (hZi k hk))] at h1
        rw [set_ne (Ne.symm (hAi k hk))]
        exact hza k hk h1
    · obtain ⟨o', ho', hop, hdst, hg, hz, hsz⟩ := hAop k hk
      obtain rfl : o' = o := by rw [ho] at ho'; exact (Option.some.inj ho').symm
      refine wpOp_plain ho hg (wp_alloc_arr (T k) hop _ hz ?_)
      refine ⟨upd vals (A k) (.pointer (some ⟨w.heap.size, 0, none⟩)), ?_, hBb _ _ hB (below_new _ _), fun j cj hcj hj => ?_, fun k' hk' hj => ?_, fun k1 k2 hk1 hk2 hkk h1 h2 => ?_, fun k' hk' h1 => ?_⟩
      · have := putAll_set (vals := vals) (.pointer (some ⟨w.heap.size, 0, none⟩)) ops ls 0 a0 (A k) o' hd ho hli
        rw [Nat.zero_add] at this
        exact this.symm
      · have e : j ≠ A k := fun e => by rw [e, (hA k hk).1] at hcj; cases hcj
        rw [upd_ne e]; rw [set_ne (Ne.symm e)] at hj; exact hc j cj hcj hj
      · have eZ : A k ≠ Z k' := ((hA k hk).2.2 k' hk').1
        by_cases e : k' = k
        · subst e
          have hnz : ¬ ls[Z k']? = some true := fun h => by rw [hza k' hk h] at hli; cases hli
          rw [upd_same, set_ne eZ, if_neg hnz]
          exact ⟨_, rfl, hBd _ hB, Blk.new _ _ _⟩
        · have eA : A k' ≠ A k := fun h => e (((hA k' hk').2.2 k hk).2.1 h)
          rw [set_ne (Ne.symm eA)] at hj
          obtain ⟨g, h1, h2, h3⟩ := hr k' hk' hj
          rw [upd_ne eA, set_ne eZ]
          exact ⟨g, h1, h2, h3.alloc _⟩
      · have key : ∀ k', k' < m → k' ≠ k → (ls.set (A k) true)[A k']? = some true → upd vals (A k) (.pointer (some ⟨w.heap.size, 0, none⟩)) (A k') ≠ .pointer (some ⟨w.heap.size, 0, none⟩) := fun k' hk' e hj => by
          have eA : A k' ≠ A k := fun h => e (((hA k' hk').2.2 k hk).2.1 h)
          rw [set_ne (Ne.symm eA)] at hj
          obtain ⟨g, h1, h2, h3⟩ := hr k' hk' hj
          rw [upd_ne eA, h1]
          intro h
          have := h3.lt
          simp at h
          first | done | omega
        by_cases e1 : k1 = k
        · subst e1
          rw [upd_same]
          exact fun h => key k2 hk2 (Ne.symm hkk) h2 h.symm
        · by_cases e2 : k2 = k
          · subst e2
            have := key k1 hk1 e1 h1
            rw [upd_same]
            exact this
          · have eA1 : A k1 ≠ A k := fun h => e1 (((hA k1 hk1).2.2 k hk).2.1 h)
            have eA2 : A k2 ≠ A k := fun h => e2 (((hA k2 hk2).2.2 k hk).2.1 h)
            rw [set_ne (Ne.symm eA1)] at h1
            rw [set_ne (Ne.symm eA2)] at h2
            rw [upd_ne eA1, upd_ne eA2]
            exact hne k1 k2 hk1 hk2 hkk h1 h2
      · have eZ : A k ≠ Z k' := ((hA k hk).2.2 k' hk').1
        rw [set_ne eZ] at h1
        have h2 := hza k' hk' h1
        by_cases e : A k = A k'
        · rw [← e]; exact set_same hli
        · rw [set_ne e]; exact h2
    · obtain ⟨o', oX, ho', hop, hg, hexA, hexX, hoX, hdX, hCX, hsz, hinfo⟩ := hZop k hk
      obtain rfl : o' = o := by rw [ho] at ho'; exact (Option.some.inj ho').symm
      obtain ⟨oA, hoA, _, hdA, _, _, hszA⟩ := hAop k hk
      obtain ⟨e, he, hb, heA⟩ := hexA
      have hlA := haft e he hb
      rw [heA] at hlA
      obtain ⟨e', he', hb', heX⟩ := hexX
      have hlX := haft e' he' hb'
      rw [heX] at hlX
      obtain ⟨g, hv, hge, hB2⟩ := hr k hk hlA
      have hnz : ¬ ls[Z k]? = some true := fun h => by rw [hli] at h; cases h
      rw [if_neg hnz] at hB2
      have hx := eval_tmp (putAll_get (vals := vals) (pA k) ops ls 0 a0 (A k) oA hd hoA hdA hlA hszA)
      rw [Nat.zero_add, hv] at hx
      have hy := eval_tmp (putAll_get (vals := vals) (sx k) ops ls 0 a0 (X k) oX hd hoX hdX hlX hsz)
      rw [Nat.zero_add, hc _ _ hCX hlX] at hy
      refine wpOp_plain ho hg (wp_store_arr (T k) _ _ hop g hx _ hy _ (T k) hB2 (by rw [u8s_size]; exact hinfo) (by rw [u8s_size, u8s_size]) (u8s_oneCell _ _) ?_)
      refine ⟨upd vals (Z k) undef, ?_, hBs _ _ _ hB hge, fun j cj hcj hj => ?_, fun k' hk' hj => ?_, fun k1 k2 hk1 hk2 hkk h1 h2 => ?_, fun k' hk' h1 => ?_⟩
      · have := putAll_set (vals := vals) undef ops ls 0 a0 (Z k) o' hd ho hli
        rw [Nat.zero_add] at this
        exact this.symm
      · have e1 : j ≠ Z k := fun e1 => by rw [e1, (hA k hk).2.1] at hcj; cases hcj
        rw [upd_ne e1]; rw [set_ne (Ne.symm e1)] at hj; exact hc j cj hcj hj
      · have eZ : A k' ≠ Z k := ((hA k' hk').2.2 k hk).1
        rw [set_ne (Ne.symm eZ)] at hj
        rw [upd_ne eZ]
        by_cases e1 : k' = k
        · subst e1
          refine ⟨g, hv, hge, ?_⟩
          rw [set_same hli, if_pos rfl]
          exact hB2.setRow_same
        · obtain ⟨g', h1, h2, h3⟩ := hr k' hk' hj
          have eZ2 : Z k' ≠ Z k := fun h => e1 (((hA k' hk').2.2 k hk).2.2 h)
          rw [set_ne (Ne.symm eZ2)]
          refine ⟨g', h1, h2, h3.setRow_other fun h => ?_⟩
          subst h
          exact hne k' k hk' hk e1 hj hlA (by rw [h1, hv])
      · have eZ1 : A k1 ≠ Z k := ((hA k1 hk1).2.2 k hk).1
        have eZ2 : A k2 ≠ Z k := ((hA k2 hk2).2.2 k hk).1
        rw [set_ne (Ne.symm eZ1)] at h1
        rw [set_ne (Ne.symm eZ2)] at h2
        rw [upd_ne eZ1, upd_ne eZ2]
        exact hne k1 k2 hk1 hk2 hkk h1 h2
      · have eZ1 : A k' ≠ Z k := ((hA k' hk').2.2 k hk).1
        rw [set_ne (Ne.symm eZ1)]
        by_cases e1 : Z k = Z k'
        · have := ((hA k hk).2.2 k' hk').2.2 e1
          subst this
          exact hlA
        · rw [set_ne e1] at h1
          exact hza k' hk' h1
  · rintro ls a w' hl hall ⟨vals, rfl, hB, hc, hr, hne, _⟩
    refine hend vals w' hB (fun i c hi hci => hc i c hci (hall i hi)) (fun k hk => ?_) (fun k k' hk hk' hkk => by
      obtain ⟨oA, hoA, _⟩ := hAop k hk
      obtain ⟨oA', hoA', _⟩ := hAop k' hk'
      exact hne k k' hk hk' hkk (hall _ (List.getElem?_eq_some_iff.1 hoA).1) (hall _ (List.getElem?_eq_some_iff.1 hoA').1)) ls hall hl
    obtain ⟨oA, hoA, _⟩ := hAop k hk
    obtain ⟨oZ, _, hoZ, _⟩ := hZop k hk
    obtain ⟨g, h1, h2, h3⟩ := hr k hk (hall _ (List.getElem?_eq_some_iff.1 hoA).1)
    rw [if_pos (hall _ (List.getElem?_eq_some_iff.1 hoZ).1)] at h3
    exact ⟨g, h1, h2, h3⟩
  · have hno : ∀ j, (List.replicate ops.length false)[j]? ≠ some true := fun j h => by
      rw [List.getElem?_replicate] at h
      split at h <;> cases h
    have hz : putAll ops (List.replicate ops.length false) (fun _ => undef) 0 a0 = a0 := by
      have key : ∀ (os : List Oper) (k : Nat) (a : Act), putAll os (List.replicate os.length false) (fun _ => undef) k a = a := by
        intro os
        induction os with
        | nil => intro k a; unfold putAll; rfl
        | cons o os ih => intro k a; rw [List.length_cons, List.replicate_succ]; unfold putAll; rw [if_neg (by simp)]; exact ih (k + 1) a
      exact key ops 0 a0
    exact ⟨fun _ => undef, hz.symm, h0, fun j c _ h => absurd h (hno j), fun k _ h => absurd h (hno _), fun _ _ _ _ _ h _ => absurd h (hno _), fun k _ h => absurd h (hno _)⟩
theorem law_region3 {ops : List Oper} {id : Nat} {a0 : Act} {w : World} (hm : P.follows .mixedOrders = true) (hf : fwdB ops = true) (hd : distB ops = true) (hgd : noGuard ops = true)
    (C : Nat → Option Value) (m : Nat) (A Z X pA sx n : Nat → Nat) (r : Nat → Nat → Int) (T : Nat → TypeId)
    (hcls : ∀ i, i < ops.length → (∃ c, C i = some c) ∨ (∃ k, k < m ∧ i = A k) ∨ (∃ k, k < m ∧ i = Z k))
    (hA : ∀ k, k < m → C (A k) = none ∧ C (Z k) = none ∧ C (X k) = some (.agg (u8s (n k) (r k))) ∧ (P.info? (T k)).bind (·.zero) = some (.agg (u8s (n k) fun _ => 0)))
    (hdis : ∀ k, k < m → ∀ k', k' < m → A k ≠ Z k' ∧ (A k = A k' → k = k') ∧ (Z k = Z k' → k = k'))
    (hres : ∀ k, k < m → resB P ops a0.tmps.size (A k) (Z k) (X k) (pA k) (sx k) (n k) (T k) = true)
    (hC : ∀ i o c, ops[i]? = some o → C i = some c → ∀ a w2, Below w.heap.size w w2 →
      (∀ j oj cj s, ops[j]? = some oj → oj.dst = some s → C j = some cj → waits o j = true → decide (s < a0.tmps.size) = true → a.eval (.tmp s) = cj) →
      (∀ s v, noDst ops s = true → a0.tmps[s]? = some v → a.eval (.tmp s) = v) → o.wp P a w2 (fun a' w' => a' = a.put o.dst c ∧ Below w2.heap.size w2 w') Q)
    (hend : ∀ (vals : Nat → Value) w', Below w.heap.size w w' → (∀ i c, i < ops.length → C i = some c → vals i = c) → (∀ k, k < m → ∃ g, vals (A k) = .pointer (some ⟨g, 0, none⟩) ∧ w.heap.size ≤ g ∧ Blk w' g (u8s (n k) (r k)) (T k)) → (∀ k k', k < m → k' < m → k ≠ k' → vals (A k) ≠ vals (A k')) →
      Q .normal (putAll ops (List.replicate ops.length true) vals 0 a0) w') :
    (Code.region id ops.toArray true).wp P Q a0 w := by
  refine law_regionD hm hf hd (fun w' => Below w.heap.size w w') w.heap.size (fun _ _ h hb => below_step h hb) (fun _ _ _ h hg => below_setRow h hg _) (fun _ h => h.size) C m A Z X pA sx n r T ?_ ?_ ?_ ?_ ?_ (Below.refl _ _).drew ?_
  · intro i o ho
    exact hcls i (List.getElem?_eq_some_iff.1 ho).1
  · intro k hk
    exact ⟨(hA k hk).1, (hA k hk).2.1, hdis k hk⟩
  · intro k hk
    obtain ⟨⟨o, h1, h2, h3⟩, _, h4, _, _⟩ := resB_spec (hres k hk)
    exact ⟨o, h1, h2, h3, noGuard_spec hgd h1, (hA k hk).2.2.2, h4⟩
  · intro k hk
    obtain ⟨_, ⟨o, oX, h1, h2, h3, h4, h5, h6⟩, _, h7, h8⟩ := resB_spec (hres k hk)
    exact ⟨o, oX, h1, h2, noGuard_spec hgd h1, h3, h4, h5, h6, (hA k hk).2.2.1, h7, h8⟩
  · intro i o c ho hci a w2 hB hsz hrd hpar
    exact ⟨noGuard_spec hgd ho, hC i o c ho hci a w2 hB (fun j oj cj s h1 h2 h3 h4 h5 => eval_tmp (hrd j oj cj s h1 h2 h3 (waits_spec h4) (of_decide_eq_true h5))) (fun s v h1 h2 => eval_tmp ((hpar s (noDst_spec h1)).trans h2))⟩
  · intro vals w' hB hc hr hne ls hall hl
    have : ls = List.replicate ops.length true := by
      apply List.ext_getElem?
      intro i
      by_cases h : i < ops.length
      · rw [hall i h, List.getElem?_replicate, if_pos h]
      · rw [List.getElem?_eq_none (by omega), List.getElem?_eq_none (by simp; omega)]
    subst this
    exact hend vals w' hB hc hr hne
end
end Go.Proofs.Ythkkicanockhgaa

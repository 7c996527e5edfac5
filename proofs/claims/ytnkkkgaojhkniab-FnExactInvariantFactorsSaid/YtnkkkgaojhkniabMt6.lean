/- Walks: a line of rows that grows by append; its spare places hold slices too. -/
import Derived.Test.YtnkkkgaojhkniabMt5
set_option linter.unusedVariables false
set_option linter.unusedSimpArgs false
namespace Go.Proofs.Ytnkkkgaojhkniab
open Go.RowKit
/-- A slice of q slices in a block of slices. -/
def LineB (w : World) (base e : Nat) (v : Value) (q : Nat) (R : Nat → Value) : Prop :=
  (v = .slice none 0 0 ∧ q = 0) ∨ ∃ b c, v = .slice (some ⟨b, 0, none⟩) q c ∧ base ≤ b ∧ q ≤ c ∧ c ≤ maxLen ∧ Blk w b (arr c R) e ∧ ∀ j, ∃ a m k, R j = .slice a m k
theorem LineB.owns {w : World} {base e : Nat} {v : Value} {q : Nat} {R : Nat → Value} (h : LineB w base e v q R) : w.ownsRow base e 1 v q ((List.range q).map R) := by
  refine ⟨by simp, ?_⟩
  rcases h with ⟨rfl, rfl⟩ | ⟨b, c, rfl, h1, h2, h3, h4, h5⟩
  · exact .inl ⟨rfl, rfl⟩
  · refine .inr ⟨b, c, arr c R, rfl, h1, h4, h2, h3, by rw [arr_size, Nat.mul_one], ?_⟩
    rw [Nat.mul_one]
    apply List.ext_getElem?
    intro j
    by_cases hj : j < q
    · rw [List.getElem?_take, if_pos hj, Array.getElem?_toList, arr_get_lt R (by omega), List.getElem?_map, List.getElem?_range hj]; rfl
    · rw [List.getElem?_take, if_neg hj, List.getElem?_eq_none (by simp; omega)]
theorem zeroCells_slices (k : Nat) : ∀ u ∈ (Builtin.zeroCells #[(.slice none 0 0 : Value)] k).toList, ∃ a m c, u = .slice a m c := by
  intro u hu
  unfold Builtin.zeroCells at hu
  rw [Array.toList_map, List.mem_map] at hu
  obtain ⟨i, _, rfl⟩ := hu
  have : i % #[(.slice none 0 0 : Value)].size = 0 := Nat.mod_one i
  rw [this]
  exact ⟨none, 0, 0, rfl⟩
/-- Cells that are slices, as a function. -/
theorem arr_of_slices (cs : Array Value) (h : ∀ u ∈ cs.toList, ∃ a m c, u = .slice a m c) : ∃ R : Nat → Value, cs = arr cs.size R ∧ (∀ j, ∃ a m k, R j = .slice a m k) ∧ ∀ j v, cs[j]? = some v → R j = v := by
  refine ⟨fun j => (cs[j]?).getD (.slice none 0 0), ?_, fun j => ?_, fun j v hv => by simp [hv]⟩
  · apply Array.ext_getElem?
    intro j
    rw [arr_get]
    by_cases hj : j < cs.size
    · rw [if_pos hj, Array.getElem?_eq_getElem hj]; rfl
    · rw [if_neg hj, Array.getElem?_eq_none (by omega)]
  · show ∃ a m k, (cs[j]?).getD (.slice none 0 0) = .slice a m k
    cases hj : cs[j]? with
    | none => exact ⟨none, 0, 0, rfl⟩
    | some u =>
      rw [Option.getD_some]
      refine h u ?_
      rw [← Array.getElem?_toList] at hj
      exact List.mem_of_getElem? hj
section
variable {P : Program}
theorem run_append_line (w : World) (base : Nat) (t ty e : TypeId) (ht : P.underlying t = some (.slice e)) (hinfo : (P.info? e).map (fun i => (i.zero, i.size, i.bytes)) = some (some (.slice none 0 0), 1, 24))
    (v : Value) (q : Nat) (R : Nat → Value) (hL : LineB w base e v q R) (ad : Addr) (x : Value) (hx : ∃ a m c, x = .slice a m c) (hc : w.cell? ad = some x) (hq : q ≤ 100000) (hbase : base ≤ w.heap.size) :
    ∃ v' w' R', (Builtin.append_ #[t, t] ty #[v, .slice (some ad) 1 1]).run P w = .ok v' w' ∧ LineB w' base e v' (q + 1) R' ∧ w.grownBy w' v.ownBlock ∧ (∀ j, j < q → R' j = R j) ∧ R' q = x ∧ (v'.ownBlock = v.ownBlock ∨ v'.ownBlock = some w.heap.size) := by
  obtain ⟨i, hi, hz, hsize, hbytes⟩ := info_parts hinfo
  have hx1 : x.oneCell' = true := by obtain ⟨a, m, c, rfl⟩ := hx; rfl
  have hown := hL.owns
  have hc' : ∀ j u, [x][j]? = some u → w.cell? (ad.add j) = some u := fun j u hu => by
    cases j with
    | zero => simp only [List.getElem?_cons_zero, Option.some.injEq] at hu; subst hu; unfold Addr.add; simpa using hc
    | succ j => simp at hu
  have hb : (q + 1) * 24 ≤ 140737488355328 := by omega
  obtain ⟨v', w', hr, h2, h3, _⟩ := run_append_own (P := P) w base t ty e i (.slice none 0 0) 1 24 ht hi hz hsize hbytes rfl (by decide) v q _ hown ad 1 1 [x] rfl hc' (fun u hu => by rw [List.mem_singleton] at hu; rw [hu]; exact hx1) (by unfold maxLen; omega) hb hbase
  have hRs : ∀ u ∈ (List.range q).map R ++ [x], ∃ a m c, u = Value.slice a m c := fun u hu => by
    rcases List.mem_append.1 hu with hu | hu
    · obtain ⟨j, hj, rfl⟩ := List.mem_map.1 hu
      rcases hL with ⟨_, rfl⟩ | ⟨_, _, _, _, _, _, _, h5⟩
      · simp at hj
      · exact h5 j
    · rw [List.mem_singleton.1 hu]; exact hx
  -- where it lies, and that all its cells are slices
  have key : ∃ g' cap' cur', v' = .slice (some ⟨g', 0, none⟩) (q + 1) cap' ∧ base ≤ g' ∧ Blk w' g' cur' e ∧ q + 1 ≤ cap' ∧ cap' ≤ maxLen ∧ cur'.size = cap' ∧ cur'.toList.take (q + 1) = (List.range q).map R ++ [x] ∧
      (∀ u ∈ cur'.toList, ∃ a m c, u = Value.slice a m c) ∧ (v'.ownBlock = v.ownBlock ∨ v'.ownBlock = some w.heap.size) := by
    rcases h2.2 with ⟨_, h⟩ | ⟨g', cap', cur', rfl, hg0, hg1, hg2, hg3, hg4, hg5⟩
    · omega
    · rw [Nat.mul_one] at hg4 hg5
      refine ⟨g', cap', cur', rfl, hg0, hg1, hg2, hg3, hg4, hg5, ?_⟩
      have fresh : ∀ (old : Array Value) (z : Nat) (c : Nat), (Builtin.append_ #[t, t] ty #[v, .slice (some ad) 1 1]).run P w = .ok (.slice (some ⟨w.heap.size, 0, none⟩) (q + 1) c) (w.drew.alloc (.cells (old ++ Builtin.zeroCells (Value.cells (.slice none 0 0)) z) e)) →
          (∀ u ∈ old.toList, ∃ a m c, u = Value.slice a m c) → (∀ u ∈ cur'.toList, ∃ a m c, u = Value.slice a m c) ∧ ((Value.slice (some ⟨g', 0, none⟩) (q + 1) cap').ownBlock = v.ownBlock ∨ (Value.slice (some ⟨g', 0, none⟩) (q + 1) cap').ownBlock = some w.heap.size) := fun old z c hr2 ho => by
        rw [hr] at hr2
        injection hr2 with e1 e2
        simp only [Value.slice.injEq, Option.some.injEq, Addr.mk.injEq, and_true, true_and] at e1
        obtain ⟨rfl, rfl⟩ := e1
        subst e2
        have h9 : Blk (w.drew.alloc (.cells (old ++ Builtin.zeroCells (Value.cells (.slice none 0 0)) z) e)) w.heap.size (old ++ Builtin.zeroCells (Value.cells (.slice none 0 0)) z) e := Blk.newAt (w := w.drew) rfl _ _
        unfold Blk at h9
        rw [hg1] at h9
        injection h9 with h9; injection h9 with h9
        subst h9
        refine ⟨fun u hu => ?_, Or.inr rfl⟩
        rw [Array.toList_append] at hu
        rcases List.mem_append.1 hu with hu | hu
        · exact ho u hu
        · exact zeroCells_slices z u hu
      rcases hL with ⟨rfl, rfl⟩ | ⟨b, c, rfl, hbb, hqc, hcm, hB, hsl⟩
      · have hr2 := run_append_nil (P := P) w t ty e i (.slice none 0 0) ht hi hz ad 1 1 [x] (by rw [hsize]; rfl) hc' (by omega) (by omega) (by rw [hbytes]; omega)
        exact fresh _ _ _ hr2 (fun u hu => hRs u (by simpa using hu))
      · by_cases hroom : q + 1 ≤ c
        · have hr2 := run_append_room (P := P) w t ty e i ht hi b q c (arr c R) hB ad 1 1 [x] (by rw [hsize]; rfl) hc' (fun u hu => by rw [List.mem_singleton] at hu; rw [hu]; exact hx1) hroom (by rw [arr_size, hsize]; simpa using hroom)
          rw [hr] at hr2
          injection hr2 with e1 e2
          simp only [Value.slice.injEq, Option.some.injEq, Addr.mk.injEq, and_true, true_and] at e1
          obtain ⟨rfl, rfl⟩ := e1
          subst e2
          have h9 := hB.setRow_same (cs := ((arr cap' R).toList.take (q * i.size) ++ [x] ++ (arr cap' R).toList.drop (q * i.size + [x].length)).toArray)
          unfold Blk at h9
          rw [hg1] at h9
          injection h9 with h9; injection h9 with h9
          rw [hsize, Nat.mul_one] at h9
          have h10 := h9.trans (arr_over cap' q R x (by omega))
          refine ⟨fun u hu => ?_, Or.inl rfl⟩
          obtain ⟨j, hj⟩ := List.getElem?_of_mem hu
          rw [Array.getElem?_toList, h10, arr_get] at hj
          split at hj
          · injection hj with hj
            rw [← hj]
            split
            · exact hx
            · exact hsl j
          · cases hj
        · have holds : ∀ j u, ((List.range q).map R)[j]? = some u → w.cell? ((⟨b, 0, none⟩ : Addr).add j) = some u := hown.cells (g := b) rfl
          have hr2 := run_append_grow (P := P) w t ty e i (.slice none 0 0) ht hi hz ⟨b, 0, none⟩ q c _ (by rw [hsize]; exact hown.1) holds ad 1 1 [x] (by rw [hsize]; rfl) hc' (by omega) (by omega) (growslice_fits (by omega) (by rw [hbytes]; exact hb))
          exact fresh _ _ _ hr2 (fun u hu => hRs u (by simpa using hu))
  obtain ⟨g', cap', cur', rfl, k1, k2, k3, k4, k5, k6, k7, k8⟩ := key
  obtain ⟨R', e1, e2, e3⟩ := arr_of_slices cur' k7
  rw [k5] at e1
  have hget : ∀ j u, ((List.range q).map R ++ [x])[j]? = some u → R' j = u := fun j u hu => by
    refine e3 j u ?_
    have hj := (List.getElem?_eq_some_iff.1 hu).1
    simp at hj
    rw [← k6, List.getElem?_take, if_pos (by omega), Array.getElem?_toList] at hu
    exact hu
  refine ⟨_, w', R', hr, .inr ⟨g', cap', rfl, k1, k3, k4, e1 ▸ k2, e2⟩, h3, fun j hj => hget j _ ?_, hget q x ?_, k8⟩
  · rw [List.getElem?_append_left (by simpa using hj), List.getElem?_map, List.getElem?_range hj]; rfl
  · rw [List.getElem?_append_right (by simp)]; simp
end
section
variable {P : Program} {ops : Array Oper} {rest : List Oper} {o : Oper} {a : Act} {w : World} {Q : Exit → Act → World → Prop}
theorem wpl_append_line (hw : Region.wanted o (yielded ops a.tmps) = true) (s x : Operand) (t : TypeId) (hop : o.op = .call { callee := .builtin .append, args := #[s, x], argTypes := #[t, t] })
    (base e : Nat) (ht : P.underlying t = some (.slice e)) (hinfo : (P.info? e).map (fun i => (i.zero, i.size, i.bytes)) = some (some (.slice none 0 0), 1, 24))
    (v : Value) (q : Nat) (R : Nat → Value) (hs : a.eval s = v) (hL : LineB w base e v q R) (ad : Addr) (hx : a.eval x = .slice (some ad) 1 1) (y : Value) (hy : ∃ a m c, y = .slice a m c) (hc : w.cell? ad = some y) (hq : q ≤ 100000) (hbase : base ≤ w.heap.size)
    (h : ∀ b' c' w' R', LineB w' base e (.slice (some ⟨b', 0, none⟩) (q + 1) c') (q + 1) R' → w.grownBy w' v.ownBlock → (∀ j, j < q → R' j = R j) → R' q = y → (some b' = v.ownBlock ∨ b' = w.heap.size) → wpList P ops Q rest (a.put o.dst (.slice (some ⟨b', 0, none⟩) (q + 1) c')) w') : wpList P ops Q (o :: rest) a w := by
  refine wpl_wanted hw fun K hK => ?_
  obtain ⟨v', w', R', hr, h1, h2, h3, h4, h5⟩ := run_append_line (P := P) w base t o.type e ht hinfo v q R hL ad y hy hc hq hbase
  have h1' := h1
  rcases h1 with ⟨_, h⟩ | ⟨b', c', rfl, _⟩
  · omega
  · have h6 : some b' = v.ownBlock ∨ b' = w.heap.size := h5.imp (fun h => h) (fun h => by injection h)
    unfold Oper.wp execOp
    simp only [hop, resolve, invoke, builtin, Sem.run_bind, Sem.run_pure, Result.andThen_ok, List.map_toArray, List.map_cons, List.map_nil, hs, hx, hr]
    exact hK _ _ (h b' c' w' R' h1' h2 h3 h4 h6)
end
end Go.Proofs.Ytnkkkgaojhkniab

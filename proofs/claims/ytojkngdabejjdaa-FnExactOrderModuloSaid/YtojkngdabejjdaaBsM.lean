/- Lists of byte arrays: where a row lies behind an append; an element stored. No program in sight. -/
import Derived.Test.YtojkngdabejjdaaBsL
set_option linter.unusedVariables false
set_option linter.unusedSimpArgs false
namespace Go.Proofs.Ytojkngdabejjdaa
open Go.RowKit
section
variable {P : Program} {ops : Array Oper} {rest : List Oper} {o : Oper} {a : Act} {w : World} {Q : Exit → Act → World → Prop}
/-- One element is appended: where the row lies then. -/
theorem wpl_append_farB (hw : Region.wanted o (yielded ops a.tmps) = true) (s x : Operand) (t : TypeId) (hop : o.op = .call { callee := .builtin .append, args := #[s, x], argTypes := #[t, t] })
    (base e : Nat) (z : Value) (size bytes : Nat) (ht : P.underlying t = some (.slice e)) (hinfo : (P.info? e).map (fun i => (i.zero, i.size, i.bytes)) = some (some z, size, bytes))
    (hzs : z.cells.size = size) (hsz : 0 < size) (hby : bytes ≤ 1024)
    (v : Value) (n : Nat) (xs : List Value) (hs : a.eval s = v) (hown : w.ownsRow base e size v n xs)
    (ad : Addr) (hx : a.eval x = .slice (some ad) 1 1) (news : List Value) (hl : news.length = size) (hc : ∀ j u, news[j]? = some u → w.cell? (ad.add j) = some u) (h1 : ∀ u ∈ news, u.oneCell' = true)
    (hn : n ≤ 100000000) (hbase : base ≤ w.heap.size)
    (h : ∀ v' w', w'.ownsRow base e size v' (n + 1) (xs ++ news) → w.grownBy w' v.ownBlock → (v'.ownBlock = v.ownBlock ∨ v'.ownBlock = some w.heap.size) → wpList P ops Q rest (a.put o.dst v') w') : wpList P ops Q (o :: rest) a w := by
  refine wpl_wanted hw fun K hK => ?_
  obtain ⟨i, hi, hz, hz1, hz2⟩ := info_parts hinfo
  have hb : (n + 1) * bytes ≤ 140737488355328 := by
    have : (n + 1) * bytes ≤ (n + 1) * 1024 := Nat.mul_le_mul_left _ hby
    omega
  have hl' : news.length = 1 * size := by omega
  obtain ⟨v', w', hr, h2, h3, _⟩ := run_append_own (P := P) w base t o.type e i z size bytes ht hi hz hz1 hz2 hzs hsz v n xs hown ad 1 1 news hl' hc h1 (by unfold maxLen; omega) hb hbase
  have hfar : v'.ownBlock = v.ownBlock ∨ v'.ownBlock = some w.heap.size := by
    subst hz1
    subst hz2
    rcases hown.2 with ⟨rfl, rfl⟩ | ⟨g, cap, cur, rfl, hbg, hg, hnc, hcm, hcs, htake⟩
    · have hr2 := run_append_nil (P := P) w t o.type e i z ht hi hz ad 1 1 news hl' hc (by omega) (by omega) (by have hb := hb; simp only [Nat.zero_add] at hb; omega)
      rw [hr] at hr2
      injection hr2 with e1 e2
      subst e1
      exact Or.inr rfl
    · by_cases hroom : n + 1 ≤ cap
      · have hfit : n * i.size + news.length ≤ cur.size := by rw [hl', hcs, ← Nat.add_mul]; exact Nat.mul_le_mul_right _ hroom
        have hr2 := run_append_room (P := P) w t o.type e i ht hi g n cap cur hg ad 1 1 news hl' hc h1 hroom hfit
        rw [hr] at hr2
        injection hr2 with e1 e2
        subst e1
        exact Or.inl rfl
      · have holds : ∀ j u, xs[j]? = some u → w.cell? ((⟨g, 0, none⟩ : Addr).add j) = some u := hown.cells (g := g) rfl
        have hr2 := run_append_grow (P := P) w t o.type e i z ht hi hz ⟨g, 0, none⟩ n cap xs hown.1 holds ad 1 1 news hl' hc (by omega) (by omega) (growslice_fits (by omega) hb)
        rw [hr] at hr2
        injection hr2 with e1 e2
        subst e1
        exact Or.inr rfl
  unfold Oper.wp execOp
  simp only [hop, resolve, invoke, builtin, Sem.run_bind, Sem.run_pure, Result.andThen_ok, List.map_toArray, List.map_cons, List.map_nil, hs, hx, hr]
  exact hK _ _ (h v' w' h2 h3 hfar)
/-- A polynomial stored into a list's place. -/
theorem wp_store_b64 {K : Act → World → Prop} (t : TypeId) (x y : Operand) (hop : o.op = .store t x y) (g k : Nat) (hx : a.eval x = .pointer (some ⟨g, k * 64, none⟩)) (xs : List Int) (hy : a.eval y = .agg (u8s 64 (cf xs)))
    (B n cap : Nat) (M : Nat → List Int) (T : Nat) (hP : BsL T 64 w B (.slice (some ⟨g, 0, none⟩) n cap) n M) (hk : k < n) (hs : (P.info? t).map (·.size) = some 64)
    (h : ∀ w', BsL T 64 w' B (.slice (some ⟨g, 0, none⟩) n cap) n (fun q => if q = k then xs else M q) → w.grownBy w' (some g) → K (a.put o.dst undef) w') : o.wp P a w K Q := by
  rcases hP.2 with ⟨h', _⟩ | ⟨g', cap', cur, h', hb, hg, hnc, hcm, hcs, htake⟩
  · simp at h'
  · simp only [Value.slice.injEq, Option.some.injEq, Addr.mk.injEq, and_true, true_and] at h'
    obtain ⟨rfl, rfl⟩ := h'
    have hvl : (u8s 64 (cf xs)).toList.length = 64 := by rw [Array.length_toList, u8s_size]
    have hkn : k * 64 + 64 ≤ n * 64 := by omega
    have hnc2 : n * 64 ≤ cap * 64 := Nat.mul_le_mul_right _ hnc
    have hr := run_storeCells_at (P := P) g (k * 64) _ (u8s 64 (cf xs)).toList 0 cur w hg (by rw [hvl, hcs]; omega) (arr_ones 64 xs)
    simp only [Nat.add_zero, hvl] at hr
    have hcl : cur.toList.length = cap * 64 := by rw [Array.length_toList]; exact hcs
    obtain ⟨i, hi, hsz⟩ := Option.map_eq_some_iff.1 hs
    have hh := h (w.setRow g (cur.toList.take (k * 64) ++ (u8s 64 (cf xs)).toList ++ cur.toList.drop (k * 64 + 64)).toArray) ⟨by simp, .inr ⟨g, cap, _, rfl, hb, setRow_heap w g cur _ _ _ hg, hnc, hcm, by
        simp only [List.size_toArray, List.length_append, List.length_take, List.length_drop, hcl, hvl]; omega, by
        apply List.ext_getElem?
        intro j
        by_cases hj : j < n * 64
        · rw [List.getElem?_take, if_pos hj, List.getElem?_map, List.getElem?_range hj]
          have h5 : cur.toList[j]? = some (bcell 64 M j) := by
            have : (cur.toList.take (n * 64))[j]? = some (bcell 64 M j) := by rw [htake, List.getElem?_map, List.getElem?_range hj]; rfl
            rwa [List.getElem?_take, if_pos hj] at this
          show _ = some (Value.int .u8 (cf (if j / 64 = k then xs else M (j / 64)) (j % 64)))
          by_cases h1 : j < k * 64
          · rw [List.append_assoc, List.getElem?_append_left (by rw [List.length_take]; omega), List.getElem?_take, if_pos h1, h5, if_neg (by omega)]; rfl
          · by_cases h2 : j < k * 64 + 64
            · rw [List.append_assoc, List.getElem?_append_right (by rw [List.length_take]; omega), List.length_take, hcl, Nat.min_eq_left (by omega), List.getElem?_append_left (by omega), Array.getElem?_toList, u8s_get _ (by omega), if_pos (by omega)]
              rw [show j % 64 = j - k * 64 by omega]
            · rw [List.getElem?_append_right (by rw [List.length_append, List.length_take]; omega), List.length_append, List.length_take, hcl, Nat.min_eq_left (by omega), hvl, List.getElem?_drop, show k * 64 + 64 + (j - (k * 64 + 64)) = j by omega, h5, if_neg (by omega)]; rfl
        · rw [List.getElem?_eq_none (by rw [List.length_take]; omega), List.getElem?_eq_none (by simp; omega)]⟩⟩
      ⟨rfl, rfl, rfl, by simp, fun k' _ hk' => setRow_other w g k' _ (fun e => hk' (by simp [e]))⟩
    unfold Oper.wp execOp
    simp only [hop, hx, hy, Instr.storeAt, Instr.sureAddr, storeVar, sizeOf, typeInfo, Value.cells]
    simp [Sem.run_bind, hi, hsz, u8s_size, hr, Oper.upon]
    simpa only [List.append_assoc] using hh
end
end Go.Proofs.Ytojkngdabejjdaa

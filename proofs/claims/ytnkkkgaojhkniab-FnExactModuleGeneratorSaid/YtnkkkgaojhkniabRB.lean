/- Rows (slices) that lie as cells in a block of their own: stores, what stays. No program in sight. -/
import Derived.Test.YtnkkkgaojhkniabGd
set_option linter.unusedVariables false
set_option linter.unusedSimpArgs false
namespace Go.Proofs.Ytnkkkgaojhkniab
open Go.RowKit
theorem IsRow.isSlice {w : World} {v : Value} {xs : List Int} (h : IsRow w v xs) : ∃ a n c, v = .slice a n c := by
  obtain ⟨oa, cap, h1, _⟩ := h
  exact ⟨oa, _, cap, h1⟩
theorem slice_one {v : Value} (h : ∃ a n c, v = .slice a n c) : v.oneCell' = true := by obtain ⟨a, n, c, rfl⟩ := h; rfl
/-- A block of slices is no block of numbers: a store into it leaves rows as they are. -/
theorem IsRow.setB {w : World} {r : Value} {xs : List Int} {g n : Nat} {R : Nat → Value} {T : TypeId} (h : IsRow w r xs) (hB : Blk w g (arr n R) T) (hR : ∀ i, i < n → ∃ a m c, R i = .slice a m c) (cs : Array Value) : IsRow (w.setRow g cs) r xs := by
  obtain ⟨oa, cap, h1, h2, h3, h4⟩ := h
  refine ⟨oa, cap, h1, h2, h3, fun hl => ?_⟩
  obtain ⟨b, off, e, hc⟩ := h4 hl
  refine ⟨b, off, e, fun i hi => ?_⟩
  by_cases hbg : b = g
  · subst hbg
    have h5 := hc i hi
    rw [hB.cell, arr_get] at h5
    split at h5
    · rename_i h6
      obtain ⟨a, m, c, h7⟩ := hR _ h6
      rw [h7] at h5
      cases h5
    · cases h5
  · have h5 := hc i hi
    rw [← h5]
    exact World.cell?_of_block (setRow_other w g b cs hbg)
theorem arr_over (n k : Nat) (R : Nat → Value) (v : Value) (h : k < n) : ((arr n R).toList.take k ++ [v] ++ (arr n R).toList.drop (k + 1)).toArray = arr n (fun j => if j = k then v else R j) := by
  have hl : (arr n R).toList.length = n := by rw [Array.length_toList, arr_size]
  apply Array.ext_getElem?
  intro i
  rw [List.getElem?_toArray, arr_get]
  by_cases h1 : i < k
  · rw [List.append_assoc, List.getElem?_append_left (by rw [List.length_take]; omega), List.getElem?_take, if_pos h1, Array.getElem?_toList, arr_get, if_pos (by omega), if_pos (by omega), if_neg (by omega)]
  · by_cases h2 : i = k
    · subst h2
      rw [List.append_assoc, List.getElem?_append_right (by rw [List.length_take]; omega), List.length_take, hl, Nat.min_eq_left (by omega), Nat.sub_self, if_pos (by omega), if_pos rfl]
      rfl
    · rw [List.getElem?_append_right (by rw [List.length_append, List.length_take]; simp; omega), List.length_append, List.length_take, hl, Nat.min_eq_left (by omega), List.length_singleton, List.getElem?_drop, show k + 1 + (i - (k + 1)) = i by omega, Array.getElem?_toList, arr_get]
      by_cases h3 : i < n
      · rw [if_pos h3, if_pos h3, if_neg h2]
      · rw [if_neg h3, if_neg h3]
section
variable {P : Program} {ops : Array Oper} {rest : List Oper} {o : Oper} {a : Act} {w : World} {Q : Exit → Act → World → Prop}
theorem wp_store_arrN {K : Act → World → Prop} (t : TypeId) (x y : Operand) (hop : o.op = .store t x y) (g k : Nat) (hx : a.eval x = .pointer (some ⟨g, k, none⟩)) (v : Value) (hy : a.eval y = v) (n : Nat) (R : Nat → Value) (T : TypeId) (hb : Blk w g (arr n R) T)
    (hk : k < n) (hs : (P.info? t).map (·.size) = some 1) (h1 : v.oneCell' = true) (h : K (a.put o.dst undef) (w.setRow g (arr n (fun j => if j = k then v else R j)))) : o.wp P a w K Q := by
  have hr := run_storeCells_at (P := P) g k T [v] 0 (arr n R) w hb (by rw [arr_size]; simp; omega) (fun x hx => by simp at hx; subst hx; exact h1)
  simp only [Nat.add_zero, List.length_singleton] at hr
  rw [arr_over n k R v hk] at hr
  have hc : v.cells = #[v] := by cases v <;> first | rfl | cases h1
  obtain ⟨i, hi, hsz⟩ := Option.map_eq_some_iff.1 hs
  unfold Oper.wp execOp
  simp only [hop, hx, hy, Instr.storeAt, Instr.sureAddr, storeVar, sizeOf, typeInfo]
  simp [Sem.run_bind, hi, hsz, hc, hr, Oper.upon]
  exact h
theorem wpl_make_any (hw : Region.wanted o (yielded ops a.tmps) = true) (t e : TypeId) (l c : Operand) (hop : o.op = .makeSlice t l c) (z : Value) (bytes : Nat) (hby8 : bytes ≤ 1024)
    (ht : P.underlying t = some (.slice e)) (hinfo : (P.info? e).map (fun i => (i.zero, i.size, i.bytes)) = some (some z, 1, bytes)) (hz1 : z.cells = #[z])
    (kl kc : IntKind) (L C : Int) (n : Nat) (hl : a.eval l = .int kl L) (hc : a.eval c = .int kc C) (hL : L = (n : Int)) (hC : C = (n : Int)) (hn : n ≤ 100000000)
    (h : wpList P ops Q rest (a.put o.dst (.slice (some ⟨w.heap.size, 0, none⟩) n n)) (w.alloc (.cells (arr n fun _ => z) e))) : wpList P ops Q (o :: rest) a w := by
  refine wpl_wanted hw fun K hK => ?_
  have hK := hK _ _ h
  subst hL hC
  obtain ⟨i, hi, hz, hsz, hby⟩ := info_parts hinfo
  have hb1 : bytes * n ≤ 1024 * n := Nat.mul_le_mul_right _ hby8
  have hr := run_make (P := P) w t e i z ht hi hz kl kc (n : Int) (n : Int) (by omega) (Int.le_refl _) (by rw [hby]; have h9 : ((bytes * n : Nat) : Int) ≤ ((1024 * n : Nat) : Int) := Int.ofNat_le.2 hb1; rw [Int.natCast_mul] at h9; omega) (by omega)
  have e2 : madeCells z.cells ((n : Int).toNat * i.size) = arr n fun _ => z := by
    rw [Int.toNat_natCast, hsz, Nat.mul_one, hz1]
    apply Array.ext_getElem?
    intro j
    rw [← Array.getElem?_toList, toList_madeCells_one, arr_get, List.getElem?_replicate]
  rw [e2, Int.toNat_natCast] at hr
  unfold Oper.wp execOp
  simp only [hop, hl, hc, Sem.run_bind, hr, Result.andThen_ok]
  exact hK
end
section
variable {P : Program} {Q : Exit → Act → World → Prop} {o : Oper} {a : Act} {w : World}
theorem wp_index_row1 (t e : TypeId) (x i : Operand) (hop : o.op = .indexAddr t x i) (ht : P.underlying t = some (.slice e)) (hs : (P.info? e).map (·.size) = some 1) (b n c k : Nat) (kd : IntKind)
    (hx : a.eval x = .slice (some ⟨b, 0, none⟩) n c) (hi : a.eval i = .int kd (k : Int)) (hk : k < n) : o.wp P a w (fun a' w' => a' = a.put o.dst (.pointer (some ⟨b, k, none⟩)) ∧ Below w.heap.size w w') Q := by
  have := wp_index_row (P := P) (Q := Q) (o := o) (a := a) (w := w) t e x i hop ht hs b 0 n c k kd hx hi hk
  rwa [Nat.zero_add] at this
theorem wp_dec (t t' : TypeId) (x : Operand) (hop : o.op = .binOp .sub t x (.const (.int .i64 1)) t') (j : Nat) (hx : a.eval x = .int .i64 ((j + 1 : Nat) : Int)) (hj : j ≤ 1000000) :
    o.wp P a w (fun a' w' => a' = a.put o.dst (.int .i64 (j : Int)) ∧ Below w.heap.size w w') Q := by
  have hw : IntKind.i64.wrap (((j + 1 : Nat) : Int) - 1) = (j : Int) := by rw [IntKind.wrap_i64]; omega
  unfold Oper.wp execOp
  have hc : a.eval (.const (.int .i64 1)) = .int .i64 1 := rfl
  simp only [hop, hx, hc]
  simp only [eqGuard, binOp, Op.intArith, Sem.run_bind, Sem.run_pure, Result.andThen_ok, Bool.not_false, if_true, hw, Oper.upon]
  simp only [ne_eq, not_true, if_false, Sem.run_pure, Result.andThen_ok]
  exact ⟨trivial, Below.refl _ _⟩
end
/-- n rows that lie in a block of their own, laid behind B. -/
def RwB (w : World) (B T : Nat) (v : Value) (n : Nat) (R : Nat → Value) (M : Nat → List Int) : Prop :=
  (∃ oa, v = .slice oa n n ∧ (0 < n → ∃ g, oa = some ⟨g, 0, none⟩ ∧ B ≤ g ∧ Blk w g (arr n R) T)) ∧ ∀ i, i < n → IsRow w (R i) (M i)
theorem RwB.nil (w : World) (B T : Nat) (R : Nat → Value) (M : Nat → List Int) : RwB w B T (.slice none 0 0) 0 R M := ⟨⟨none, rfl, fun h => absurd h (by omega)⟩, fun _ h => absurd h (by omega)⟩
theorem RwB.below {w w' : World} {B T : Nat} {v : Value} {n : Nat} {R : Nat → Value} {M : Nat → List Int} (h : RwB w B T v n R M) (hb : Below w.heap.size w w') : RwB w' B T v n R M := by
  obtain ⟨⟨oa, h1, h2⟩, h3⟩ := h
  refine ⟨⟨oa, h1, fun h0 => ?_⟩, fun i hi => (h3 i hi).below hb⟩
  obtain ⟨g, e, hB, hg⟩ := h2 h0
  exact ⟨g, e, hB, hg.keep hb⟩
end Go.Proofs.Ytnkkkgaojhkniab

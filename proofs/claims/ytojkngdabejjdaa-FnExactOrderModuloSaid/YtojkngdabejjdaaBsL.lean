/- Lists of byte arrays of one size: what they hold, one more, an element. No program in sight. -/
import Derived.Laws.OwnMore
import Derived.Test.YtojkngdabejjdaaRwK
set_option linter.unusedVariables false
set_option linter.unusedSimpArgs false
namespace Go.Proofs.Ytojkngdabejjdaa
open Go.RowKit
def bcell (m : Nat) (M : Nat → List Int) (j : Nat) : Value := .int .u8 (cf (M (j / m)) (j % m))
def BsL (T m : Nat) (w : World) (B : Nat) (v : Value) (n : Nat) (M : Nat → List Int) : Prop := w.ownsRow B T m v n ((List.range (n * m)).map (bcell m M))
section
variable {T m : Nat} {w w' : World} {B n : Nat} {v : Value} {M : Nat → List Int}
theorem bcells_succ (hm : 0 < m) (M : Nat → List Int) (n : Nat) : (List.range ((n + 1) * m)).map (bcell m M) = (List.range (n * m)).map (bcell m M) ++ (u8s m (cf (M n))).toList := by
  rw [Nat.add_mul, Nat.one_mul, List.range_add, List.map_append, List.map_map]
  congr 1
  unfold u8s
  rw [arr_list]
  apply List.map_congr_left
  intro j hj
  have hj := List.mem_range.1 hj
  show bcell m M (n * m + j) = _
  unfold bcell
  rw [Nat.mul_comm n m, Nat.mul_add_div hm, Nat.mul_add_mod, Nat.div_eq_of_lt hj, Nat.mod_eq_of_lt hj, Nat.add_zero]
theorem BsL.below (h : BsL T m w B v n M) (hb : Below w.heap.size w w') : BsL T m w' B v n M := ownsK_below h hb
theorem BsL.kept {row : Option Nat} (h : BsL T m w B v n M) (hg : w.grownBy w' row) (hne : v.ownBlock = none ∨ v.ownBlock ≠ row) : BsL T m w' B v n M := World.ownsRow.kept h hg hne
theorem BsL.form (h : BsL T m w B v n M) (hn : 0 < n) : ∃ g cap, v = .slice (some ⟨g, 0, none⟩) n cap ∧ B ≤ g := by
  rcases h.2 with ⟨rfl, rfl⟩ | ⟨g, cap, cur, rfl, hB, _⟩
  · omega
  · exact ⟨g, cap, rfl, hB⟩
theorem BsL.slc {oa : Option Addr} {c : Nat} (h : BsL T m w B (.slice oa n c) n M) (hn : 0 < n) : ∃ g, oa = some ⟨g, 0, none⟩ ∧ B ≤ g := by
  obtain ⟨g, cap, e, hB⟩ := h.form hn
  injection e with e1 _ _
  exact ⟨g, e1, hB⟩
theorem BsL.sl (h : BsL T m w B v n M) : ∃ oa cap, v = .slice oa n cap := by
  rcases h.2 with ⟨rfl, rfl⟩ | ⟨g, cap, cur, rfl, _⟩
  · exact ⟨none, 0, rfl⟩
  · exact ⟨_, _, rfl⟩
theorem BsL.cells {g cap : Nat} (hm : 0 < m) (h : BsL T m w B (.slice (some ⟨g, 0, none⟩) n cap) n M) (i : Nat) (hi : i < n) : ∀ j, j < m → w.cell? ⟨g, i * m + j, none⟩ = some (.int .u8 (cf (M i) j)) := fun j hj => by
  have h0 : i * m + j < n * m := by
    have : (i + 1) * m ≤ n * m := Nat.mul_le_mul_right m hi
    rw [Nat.add_mul, Nat.one_mul] at this
    omega
  have h1 := World.ownsRow.cellAt h (i * m + j) h0
  rw [h1, List.getElem?_map, List.getElem?_range h0]
  show some (bcell m M (i * m + j)) = _
  unfold bcell
  rw [Nat.mul_comm i m, Nat.mul_add_div hm, Nat.mul_add_mod, Nat.div_eq_of_lt hj, Nat.mod_eq_of_lt hj, Nat.add_zero]
theorem BsL.void (w : World) (T m : Nat) (M : Nat → List Int) : BsL T m (w.alloc (.cells #[] T)) w.heap.size (.slice (some ⟨w.heap.size, 0, none⟩) 0 0) 0 M := by
  have := World.ownsRow_made w (base := w.heap.size) (e := T) (size := m) #[] 0 (Nat.le_refl _) (by unfold maxLen; omega) (by simp)
  simpa [BsL] using this
theorem BsL.mono {B' : Nat} (h : BsL T m w B v n M) (hb : B' ≤ B) : BsL T m w B' v n M := by
  refine ⟨h.1, ?_⟩
  rcases h.2 with h1 | ⟨g, cap, cur, h1, h2, h3⟩
  · exact .inl h1
  · exact .inr ⟨g, cap, cur, h1, Nat.le_trans hb h2, h3⟩
theorem BsL.ext {M' : Nat → List Int} (hm : 0 < m) (h : BsL T m w B v n M) (e : ∀ i, i < n → M i = M' i) : BsL T m w B v n M' := by
  unfold BsL at *
  rw [← show (List.range (n * m)).map (bcell m M) = (List.range (n * m)).map (bcell m M') from List.map_congr_left fun j hj => by
    have hj := List.mem_range.1 hj
    unfold bcell; rw [e (j / m) ((Nat.div_lt_iff_lt_mul hm).2 hj)]]
  exact h
theorem BsL.snoc (hm : 0 < m) {xs : List Int} (hx : M n = xs) (h : w.ownsRow B T m v (n + 1) ((List.range (n * m)).map (bcell m M) ++ (u8s m (cf xs)).toList)) : BsL T m w B v (n + 1) M := by
  unfold BsL; rw [bcells_succ hm, hx]; exact h
theorem arr_news (w : World) (m T : Nat) (xs : List Int) : ∀ j u, ((u8s m (cf xs)).toList)[j]? = some u → (w.alloc (.cells (u8s m (cf xs)) T)).cell? ⟨w.heap.size, j, none⟩ = some u := fun j u hj => by
  rw [(Blk.new w (u8s m (cf xs)) T).cell, ← Array.getElem?_toList]; exact hj
theorem arr_ones (m : Nat) (xs : List Int) : ∀ u ∈ (u8s m (cf xs)).toList, u.oneCell' = true := fun u hu => (Array.all_eq_true_iff_forall_mem.1 (u8s_oneCell m (cf xs))) u (by simpa using hu)
end
theorem fill_one (m : Nat) (f : Nat → Int) (G : Nat → Value) : Instr.fill (fun i => some (i * m, m)) (arr m G) [(0, Value.agg (u8s m f))] = some (u8s m f) := by
  simp only [Instr.fill, Value.cells, u8s_size, arr_size]
  rw [if_neg (by simp)]
  have h1 : ((u8s m f).zipIdx.foldl (fun cs (x : Value × Nat) => cs.setIfInBounds (0 * m + x.2) x.1) (arr m G)) = u8s m f := by
    rw [← Array.foldl_toList, Array.toList_zipIdx]
    unfold u8s
    rw [arr_list, foldl_put]
    apply arr_ext; intro q hq
    simp only [List.length_map, List.length_range, Nat.add_zero, Nat.zero_mul, Nat.zero_add, Nat.zero_le, true_and, Nat.sub_zero]
    rw [if_pos hq, List.getD_eq_getElem?_getD, List.getElem?_map, List.getElem?_range hq]; rfl
  exact congrArg some h1
section
variable {P : Program} {ops : Array Oper} {rest : List Oper} {o : Oper} {a : Act} {w : World} {Q : Exit → Act → World → Prop}
/-- A slice of one array. -/
theorem wpl_buildSlice_arr (hw : Region.wanted o (yielded ops a.tmps) = true) (t e m : Nat) (x : Operand) (hop : o.op = .buildSlice t 1 #[(0, x)])
    (ht : P.underlying t = some (.slice e)) (hs : (P.info? e).map (·.size) = some m) (hz : (P.info? e).bind (·.zero) = some (.agg (u8s m fun _ => 0))) (hm : 0 < m) (hm2 : m ≤ 1000)
    (f : Nat → Int) (hx : a.eval x = .agg (u8s m f))
    (h : wpList P ops Q rest (a.put o.dst (.slice (some ⟨w.heap.size, 0, none⟩) 1 1)) (w.alloc (.cells (u8s m f) e))) : wpList P ops Q (o :: rest) a w := by
  refine wpl_wanted hw fun K hK => ?_
  have hK := hK _ _ h
  obtain ⟨inf, hinf, hsz⟩ := Option.map_eq_some_iff.1 hs
  obtain ⟨inf', hinf', hz⟩ := Option.bind_eq_some_iff.1 hz
  obtain rfl : inf = inf' := by rw [hinf] at hinf'; exact Option.some.inj hinf'
  have hfill := fill_one m f (fun q => (u8s m fun _ => 0)[q % m]!)
  have hzero : (Array.range (1 * m)).map (fun x => (u8s m fun _ => 0)[x % (u8s m fun _ => 0).size]!) = arr m (fun q => (u8s m fun _ => 0)[q % m]!) := by
    apply Array.ext_getElem?
    intro i
    rw [arr_get, Array.getElem?_map, u8s_size, Nat.one_mul]
    by_cases hi : i < m
    · rw [if_pos hi, Array.getElem?_range, if_pos hi]; rfl
    · rw [if_neg hi, Array.getElem?_range, if_neg hi]; rfl
  unfold Oper.wp execOp
  simp only [hop, Instr.buildSlice, Sem.run_bind, run_underlying ht w, Result.andThen_ok, sizeOf, typeInfo, run_program, hinf, Sem.run_pure, hsz, zeroValue, List.map_toArray, List.map_cons, List.map_nil, hx, Value.cells]
  rw [if_neg (by simp only [Nat.reducePow]; omega), if_neg (by omega)]
  simp only [Sem.run_bind, run_program, Result.andThen_ok, hinf, Sem.run_pure, hz, hzero, hfill]
  simp [newRow, newObj, Oper.upon]
  exact hK
/-- A literal of no elements. -/
theorem wpl_buildSlice_voidB (hw : Region.wanted o (yielded ops a.tmps) = true) (t e m : TypeId) (hop : o.op = .buildSlice t 0 #[]) (ht : P.underlying t = some (.slice e)) (hs : (P.info? e).map (·.size) = some m)
    (hz : ((P.info? e).bind (·.zero)).isSome = true)
    (h : wpList P ops Q rest (a.put o.dst (.slice (some ⟨w.heap.size, 0, none⟩) 0 0)) (w.alloc (.cells #[] e))) : wpList P ops Q (o :: rest) a w := by
  refine wpl_wanted hw fun K hK => ?_
  have hK := hK _ _ h
  obtain ⟨ie, hie, hse⟩ := Option.map_eq_some_iff.1 hs
  unfold Oper.wp execOp
  simp [hop, Instr.buildSlice, Sem.run_bind, run_underlying ht w, sizeOf, typeInfo, hie, hse, Instr.fill, newRow, newObj, Oper.upon]
  rw [show (Array.range 0).map (fun _ => (default : Value)) = #[] from by apply Array.ext_getElem?; intro i; simp]
  exact hK
end
section
variable {P : Program} {Q : Exit → Act → World → Prop} {o : Oper} {a : Act} {w : World}
theorem wp_index_bs (t e : TypeId) (m : Nat) (x i : Operand) (hop : o.op = .indexAddr t x i) (ht : P.underlying t = some (.slice e)) (hs : (P.info? e).map (·.size) = some m) (hm : m ≠ 0) (b n c k : Nat) (kd : IntKind)
    (hx : a.eval x = .slice (some ⟨b, 0, none⟩) n c) (hi : a.eval i = .int kd (k : Int)) (hk : k < n) : o.wp P a w (fun a' w' => a' = a.put o.dst (.pointer (some ⟨b, k * m, none⟩)) ∧ Below w.heap.size w w') Q := by
  obtain ⟨ie, hie, hse⟩ := Option.map_eq_some_iff.1 hs
  unfold Oper.wp execOp
  simp [hop, hx, hi, Instr.indexAt, run_underlying ht w, asIntOf, Sem.run_bind, sizeOf, typeInfo, hie, hse, hk, Oper.upon, Addr.add]
  refine ⟨?_, Below.refl _ _⟩
  by_cases h0 : k = 0
  · subst h0; simp
  · rw [if_neg (by intro h; rcases Nat.mul_eq_zero.1 h with h | h <;> omega)]
theorem wp_load_bs (ty : TypeId) (x : Operand) (ho : o.op = .load ty x) (m g off : Nat) (hx : a.eval x = .pointer (some ⟨g, off, none⟩)) (f : Nat → Int) (hc : ∀ j, j < m → w.cell? ⟨g, off + j, none⟩ = some (.int .u8 (f j))) (e : Nat)
    (hu : P.underlying ty = some (.array m e)) (hi : (P.info? ty).map (·.size) = some m) :
    o.wp P a w (fun a' w' => a' = a.put o.dst (.agg (u8s m f)) ∧ Below w.heap.size w w') Q := by
  have hr := run_loadVar_mid (P := P) w g off ty ((List.range m).map (fun j => Value.int .u8 (f j))) (.array m e) (fun j v hv => by
    rw [List.getElem?_map] at hv
    obtain ⟨q, hq, rfl⟩ := Option.map_eq_some_iff.1 hv
    have hjn : j < m := by
      have := (List.getElem?_eq_some_iff.1 hq).1
      simpa using this
    rw [List.getElem?_range hjn] at hq
    obtain rfl := Option.some.inj hq
    exact hc j hjn) hu rfl (by simpa using hi)
  unfold Oper.wp execOp
  simp only [ho, hx, Instr.loadAt, Instr.sureAddr, Sem.run_bind, Sem.run_pure, Result.andThen_ok, hr]
  exact ⟨rfl, Below.refl _ _⟩
end
end Go.Proofs.Ytojkngdabejjdaa

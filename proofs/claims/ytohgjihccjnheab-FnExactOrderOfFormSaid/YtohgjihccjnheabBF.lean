/- Laws: a slice of forms that the call writes out; a form that lies within a row of cells. -/
import Derived.Test.YtohgjihccjnheabGd
set_option linter.unusedVariables false
set_option linter.unusedSimpArgs false
namespace Go.Proofs.Ytohgjihccjnheab
open Go.RowKit
/-- The cells of several forms, one behind the other. -/
def formsF (fs : List (Nat → Int)) (j : Nat) : Int := (fs.getD (j / 128) (fun _ => 0)) (j % 128)

theorem fill_forms (N : Nat) : ∀ (fs : List (Nat → Int)) (k : Nat) (G : Nat → Value), (k + fs.length) * 128 ≤ N →
    Instr.fill (fun i => some (i * 128, 128)) (arr N G) ((fs.zipIdx k).map fun x => (x.2, Value.agg (u8s 128 x.1))) =
      some (arr N (fun q => if k * 128 ≤ q ∧ q < (k + fs.length) * 128 then .int .u8 (formsF fs (q - k * 128)) else G q))
  | [], k, G, _ => by
    simp only [List.zipIdx_nil, List.map_nil, Instr.fill]
    refine congrArg some (arr_ext fun i _ => ?_); rw [if_neg (by simp only [List.length_nil]; omega)]
  | f :: fs, k, G, h => by
    simp only [List.length_cons] at h
    simp only [List.zipIdx_cons, List.map_cons, Instr.fill, Value.cells, u8s_size, arr_size]
    rw [if_neg (by simp; omega)]
    have h1 : ((u8s 128 f).zipIdx.foldl (fun cs (x : Value × Nat) => cs.setIfInBounds (k * 128 + x.2) x.1) (arr N G)) =
        arr N (fun q => if k * 128 ≤ q ∧ q < k * 128 + 128 then .int .u8 (f (q - k * 128)) else G q) := by
      rw [← Array.foldl_toList, Array.toList_zipIdx]
      unfold u8s
      rw [arr_list, foldl_put]
      apply arr_ext; intro q _
      simp only [List.length_map, List.length_range, Nat.add_zero]
      split
      · rename_i hq
        rw [List.getD_eq_getElem?_getD, List.getElem?_map, List.getElem?_range (by omega)]; rfl
      · rfl
    refine (congrArg (fun A => Instr.fill (fun i => some (i * 128, 128)) A ((fs.zipIdx (k + 1)).map fun x => (x.2, Value.agg (u8s 128 x.1)))) h1).trans ?_
    rw [fill_forms N fs (k + 1) _ (by omega)]
    refine congrArg some (arr_ext fun q _ => ?_)
    simp only [List.length_cons]
    by_cases h2 : (k + 1) * 128 ≤ q ∧ q < (k + 1 + fs.length) * 128
    · rw [if_pos h2, if_pos (by omega)]
      unfold formsF
      rw [show (q - k * 128) / 128 = (q - (k + 1) * 128) / 128 + 1 by omega, show (q - k * 128) % 128 = (q - (k + 1) * 128) % 128 by omega, List.getD_cons_succ]
    · rw [if_neg h2]
      by_cases h3 : k * 128 ≤ q ∧ q < k * 128 + 128
      · rw [if_pos h3, if_pos (by omega)]
        unfold formsF
        rw [show (q - k * 128) / 128 = 0 by omega, show (q - k * 128) % 128 = q - k * 128 by omega]; rfl
      · rw [if_neg h3, if_neg (by omega)]

section
variable {P : Program} {ops : Array Oper} {rest : List Oper} {o : Oper} {a : Act} {w : World} {Q : Exit → Act → World → Prop}

/-- A slice of forms that the call writes out (the arguments of a variadic call). -/
theorem wpl_buildSlice_forms (hw : Region.wanted o (yielded ops a.tmps) = true) (t e n : Nat) (parts : List (Nat × Operand)) (hop : o.op = .buildSlice t n parts.toArray)
    (ht : P.underlying t = some (.slice e)) (hs : (P.info? e).map (·.size) = some 128) (hz : (P.info? e).bind (·.zero) = some (.agg (u8s 128 fun _ => 0)))
    (fs : List (Nat → Int)) (hn : fs.length = n) (hn0 : 0 < n) (hn1 : n ≤ 1000)
    (hp : (parts.map fun (x : Nat × Operand) => (x.1, a.eval x.2)) = fs.zipIdx.map fun x => (x.2, Value.agg (u8s 128 x.1)))
    (h : wpList P ops Q rest (a.put o.dst (.slice (some ⟨w.heap.size, 0, none⟩) n n)) (w.alloc (.cells (u8s (n * 128) (formsF fs)) e))) : wpList P ops Q (o :: rest) a w := by
  refine wpl_wanted hw fun K hK => ?_
  have hK := hK _ _ h
  obtain ⟨inf, hinf, hsz⟩ := Option.map_eq_some_iff.1 hs
  obtain ⟨inf', hinf', hz⟩ := Option.bind_eq_some_iff.1 hz
  obtain rfl : inf = inf' := by rw [hinf] at hinf'; exact Option.some.inj hinf'
  have hfill := fill_forms (n * 128) fs 0 (fun q => (u8s 128 fun _ => 0)[q % 128]!) (by omega)
  have hzero : (Array.range (n * 128)).map (fun x => (u8s 128 fun _ => 0)[x % (u8s 128 fun _ => 0).size]!) = arr (n * 128) (fun q => (u8s 128 fun _ => 0)[q % 128]!) := by
    apply Array.ext_getElem?
    intro i
    rw [arr_get, Array.getElem?_map, u8s_size]
    by_cases hi : i < n * 128
    · rw [if_pos hi, Array.getElem?_range, if_pos hi]; rfl
    · rw [if_neg hi, Array.getElem?_range, if_neg hi]; rfl
  unfold Oper.wp execOp
  simp only [hop, Instr.buildSlice, Sem.run_bind, run_underlying ht w, Result.andThen_ok, sizeOf, typeInfo, run_program, hinf, Sem.run_pure, hsz, zeroValue, List.map_toArray, hp, Value.cells]
  rw [if_neg (by simp only [Nat.reducePow]; omega), if_neg (by omega)]
  simp only [Sem.run_bind, run_program, Result.andThen_ok, hinf, Sem.run_pure, hz, hzero, hfill]
  simp only [Nat.zero_mul, Nat.zero_le, Nat.zero_add, true_and, Nat.sub_zero]
  have e1 : arr (n * 128) (fun q => if q < fs.length * 128 then Value.int .u8 (formsF fs q) else (u8s 128 fun _ => 0)[q % 128]!) = u8s (n * 128) (formsF fs) := by
    apply arr_ext; intro i hi; rw [if_pos (by omega)]
  rw [e1]
  simp [newRow, newObj, Oper.upon]
  exact hK


theorem wpl_load_mid_str (hw : Region.wanted o (yielded ops a.tmps) = true) (ty : TypeId) (x : Operand) (ho : o.op = .load ty x)
    (g off : Nat) (hx : a.eval x = .pointer (some ⟨g, off, none⟩)) (n : Nat) (f : Nat → Value) (hc : ∀ j, j < n → w.cell? ⟨g, off + j, none⟩ = some (f j))
    (hu : strB P ty = true) (hi : (P.info? ty).map (·.size) = some n)
    (h : wpList P ops Q rest (a.put o.dst (.agg (arr n f))) w) : wpList P ops Q (o :: rest) a w := by
  obtain ⟨fs, hfs⟩ := strB_spec hu
  refine wpl_wanted hw fun K hK => ?_
  have hK := hK _ _ h
  have hr := run_loadVar_mid (P := P) w g off ty ((List.range n).map f) (.struct fs) (fun j v hv => by
    rw [List.getElem?_map] at hv
    obtain ⟨q, hq, rfl⟩ := Option.map_eq_some_iff.1 hv
    have hjn : j < n := by
      have := (List.getElem?_eq_some_iff.1 hq).1
      simpa using this
    rw [List.getElem?_range hjn] at hq
    obtain rfl := Option.some.inj hq
    exact hc j hjn) hfs rfl (by simpa using hi)
  unfold Oper.wp execOp
  simp only [ho, hx, Instr.loadAt, Instr.sureAddr, Sem.run_bind, Sem.run_pure, Result.andThen_ok, hr]
  exact hK

end
theorem formsF_in (fs : List (Nat → Int)) (hf : ∀ f ∈ fs, ∀ i, 0 ≤ f i ∧ f i ≤ 255) (j : Nat) : 0 ≤ formsF fs j ∧ formsF fs j ≤ 255 := by
  unfold formsF
  by_cases h : j / 128 < fs.length
  · rw [List.getD_eq_getElem?_getD, List.getElem?_eq_getElem h]
    exact hf _ (List.getElem_mem h) _
  · rw [List.getD_eq_getElem?_getD, List.getElem?_eq_none (by omega)]
    show (0 : Int) ≤ 0 ∧ (0 : Int) ≤ 255
    omega
theorem formsF_at (fs : List (Nat → Int)) (k : Nat) : u8s 128 (fun q => formsF fs (k * 128 + q)) = u8s 128 (fs.getD k (fun _ => 0)) := u8s_ext fun q hq => by
  unfold formsF; rw [show (k * 128 + q) / 128 = k by omega, show (k * 128 + q) % 128 = q by omega]
section
variable {P : Program} {Q : Exit → Act → World → Prop} {o : Oper} {a : Act} {w : World}
theorem wp_index_rowN (t e : TypeId) (m : Nat) (x i : Operand) (hop : o.op = .indexAddr t x i) (ht : P.underlying t = some (.slice e)) (hs : (P.info? e).map (·.size) = some m) (hm : m ≠ 0) (b n c k : Nat) (kd : IntKind)
    (hx : a.eval x = .slice (some ⟨b, 0, none⟩) n c) (hi : a.eval i = .int kd (k : Int)) (hk : k < n) : o.wp P a w (fun a' w' => a' = a.put o.dst (.pointer (some ⟨b, k * m, none⟩)) ∧ Below w.heap.size w w') Q := by
  obtain ⟨ie, hie, hse⟩ := Option.map_eq_some_iff.1 hs
  unfold Oper.wp execOp
  simp [hop, hx, hi, Instr.indexAt, run_underlying ht w, asIntOf, Sem.run_bind, sizeOf, typeInfo, hie, hse, hk, Oper.upon, Addr.add]
  refine ⟨?_, Below.refl _ _⟩
  by_cases h0 : k = 0
  · subst h0; simp
  · rw [if_neg (by intro h; rcases Nat.mul_eq_zero.1 h with h | h <;> omega)]
theorem wp_load_form (ty : TypeId) (x : Operand) (ho : o.op = .load ty x) (g k : Nat) (hx : a.eval x = .pointer (some ⟨g, k * 128, none⟩)) (N : Nat) (F : Nat → Int) (T : TypeId) (hb : Blk w g (u8s N F) T) (hin : k * 128 + 128 ≤ N)
    (hu : strB P ty = true) (hi : (P.info? ty).map (·.size) = some 128) :
    o.wp P a w (fun a' w' => a' = a.put o.dst (.agg (u8s 128 (fmF (fun q => F (k * 128 + q)) (fun q => F (k * 128 + (64 + q)))))) ∧ Below w.heap.size w w') Q := by
  obtain ⟨fs, hfs⟩ := strB_spec hu
  have hr := run_loadVar_mid (P := P) w g (k * 128) ty ((List.range 128).map (fun j => Value.int .u8 (F (k * 128 + j)))) (.struct fs) (fun j v hv => by
    rw [List.getElem?_map] at hv
    obtain ⟨q, hq, rfl⟩ := Option.map_eq_some_iff.1 hv
    have hjn : j < 128 := by
      have := (List.getElem?_eq_some_iff.1 hq).1
      simpa using this
    rw [List.getElem?_range hjn] at hq
    obtain rfl := Option.some.inj hq
    rw [hb.cell, u8s_get _ (by omega)]) hfs rfl (by simpa using hi)
  unfold Oper.wp execOp
  simp only [ho, hx, Instr.loadAt, Instr.sureAddr, Sem.run_bind, Sem.run_pure, Result.andThen_ok, hr]
  rw [← fmF_self (fun q => F (k * 128 + q))]
  exact ⟨rfl, Below.refl _ _⟩
theorem wp_load_A' (ty : TypeId) (x : Operand) (ho : o.op = .load ty x) (g k : Nat) (hx : a.eval x = .pointer (some ⟨g, k * 128 + 0, none⟩)) (N e : Nat) (F : Nat → Int) (T : TypeId) (hb : Blk w g (u8s N F) T) (hin : k * 128 + 128 ≤ N)
    (hu : P.underlying ty = some (.array 64 e)) (hi : (P.info? ty).map (·.size) = some 64) :
    o.wp P a w (fun a' w' => a' = a.put o.dst (.agg (u8s 64 (fun q => F (k * 128 + q)))) ∧ Below w.heap.size w w') Q :=
  wp_load_midB (P := P) (Q := Q) ty x ho g (k * 128) hx N 64 e F T hb (by omega) hu hi
end
section
variable {P : Program} {ops : Array Oper} {rest : List Oper} {o : Oper} {a : Act} {w : World} {Q : Exit → Act → World → Prop}
theorem wpl_build_zeroS (hw : Region.wanted o (yielded ops a.tmps) = true) (T : Nat) (z : Array Value) (pl : List (Nat × Nat)) (hl : layout P T = some (.agg z, pl)) (hop : o.op = .build T #[])
    (h : wpList P ops Q rest (a.put o.dst (.agg z)) w) : wpList P ops Q (o :: rest) a w := by
  refine wpl_wanted hw fun K hK => ?_
  have hK := hK _ _ h
  have hb : P.built T (#[] : Array (Nat × Value)).toList = some z := by rw [built_layout hl]; rfl
  have hr := run_build (P := P) w T #[] _ hb
  unfold Oper.wp execOp
  simp [hop, Sem.run_bind, hr, Oper.upon]
  exact hK
end
theorem formsF_in1 (f g : Nat → Int) (fs : List (Nat → Int)) (hf : ∀ i, 0 ≤ f i ∧ f i ≤ 255) (hg : ∀ i, 0 ≤ g i ∧ g i ≤ 255) (i : Nat) : 0 ≤ fmF f g i ∧ fmF f g i ≤ 255 := by
  unfold fmF; split
  · exact hf _
  · exact hg _
end Go.Proofs.Ytohgjihccjnheab

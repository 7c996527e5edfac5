/- Laws: a slice of arrays that the call writes out; an array that lies within a row of cells. -/
import Derived.Test.YthkkicanockhgaaOps
namespace Go.Proofs.Ythkkicanockhgaa
open Go.RowKit

theorem foldl_put (off N : Nat) : ∀ (l : List Value) (s : Nat) (G : Nat → Value),
    (l.zipIdx s).foldl (fun (cs : Array Value) (x : Value × Nat) => cs.setIfInBounds (off + x.2) x.1) (arr N G) =
      arr N (fun q => if off + s ≤ q ∧ q < off + s + l.length then l.getD (q - (off + s)) (G q) else G q)
  | [], s, G => by
    simp only [List.zipIdx_nil, List.foldl_nil]
    apply arr_ext; intro i _; rw [if_neg (by simp)]
  | v :: l, s, G => by
    simp only [List.zipIdx_cons, List.foldl_cons]
    rw [arr_set, foldl_put off N l (s + 1)]
    apply arr_ext; intro q _
    by_cases h1 : q = off + s
    · subst h1
      rw [if_neg (by omega), if_pos rfl, if_pos ⟨Nat.le_refl _, by simp⟩]
      simp
    · simp only [h1, if_false]
      by_cases h2 : off + (s + 1) ≤ q ∧ q < off + (s + 1) + l.length
      · rw [if_pos h2, if_pos (by simp only [List.length_cons]; omega)]
        rw [show q - (off + s) = (q - (off + (s + 1))) + 1 by omega, List.getD_cons_succ]
      · rw [if_neg h2, if_neg (by simp only [List.length_cons]; omega)]

/-- The cells of several polynomials, one behind the other. -/
def polysF (fs : List (Nat → Int)) (j : Nat) : Int := (fs.getD (j / 64) (fun _ => 0)) (j % 64)

theorem fill_polys (N : Nat) : ∀ (fs : List (Nat → Int)) (k : Nat) (G : Nat → Value), (k + fs.length) * 64 ≤ N →
    Instr.fill (fun i => some (i * 64, 64)) (arr N G) ((fs.zipIdx k).map fun x => (x.2, Value.agg (u8s 64 x.1))) =
      some (arr N (fun q => if k * 64 ≤ q ∧ q < (k + fs.length) * 64 then .int .u8 (polysF fs (q - k * 64)) else G q))
  | [], k, G, _ => by
    simp only [List.zipIdx_nil, List.map_nil, Instr.fill]
    refine congrArg some (arr_ext fun i _ => ?_); rw [if_neg (by simp only [List.length_nil]; omega)]
  | f :: fs, k, G, h => by
    simp only [List.length_cons] at h
    simp only [List.zipIdx_cons, List.map_cons, Instr.fill, Value.cells, u8s_size, arr_size]
    rw [if_neg (by simp; omega)]
    have h1 : ((u8s 64 f).zipIdx.foldl (fun cs (x : Value × Nat) => cs.setIfInBounds (k * 64 + x.2) x.1) (arr N G)) =
        arr N (fun q => if k * 64 ≤ q ∧ q < k * 64 + 64 then .int .u8 (f (q - k * 64)) else G q) := by
      rw [← Array.foldl_toList, Array.toList_zipIdx]
      unfold u8s
      rw [arr_list, foldl_put]
      apply arr_ext; intro q _
      simp only [List.length_map, List.length_range, Nat.add_zero]
      split
      · rename_i hq
        rw [List.getD_eq_getElem?_getD, List.getElem?_map, List.getElem?_range (by omega)]; rfl
      · rfl
    refine (congrArg (fun A => Instr.fill (fun i => some (i * 64, 64)) A ((fs.zipIdx (k + 1)).map fun x => (x.2, Value.agg (u8s 64 x.1)))) h1).trans ?_
    rw [fill_polys N fs (k + 1) _ (by omega)]
    refine congrArg some (arr_ext fun q _ => ?_)
    simp only [List.length_cons]
    by_cases h2 : (k + 1) * 64 ≤ q ∧ q < (k + 1 + fs.length) * 64
    · rw [if_pos h2, if_pos (by omega)]
      unfold polysF
      rw [show (q - k * 64) / 64 = (q - (k + 1) * 64) / 64 + 1 by omega, show (q - k * 64) % 64 = (q - (k + 1) * 64) % 64 by omega, List.getD_cons_succ]
    · rw [if_neg h2]
      by_cases h3 : k * 64 ≤ q ∧ q < k * 64 + 64
      · rw [if_pos h3, if_pos (by omega)]
        unfold polysF
        rw [show (q - k * 64) / 64 = 0 by omega, show (q - k * 64) % 64 = q - k * 64 by omega]; rfl
      · rw [if_neg h3, if_neg (by omega)]

section
variable {P : Program} {ops : Array Oper} {rest : List Oper} {o : Oper} {a : Act} {w : World} {Q : Exit → Act → World → Prop}

/-- A slice of polynomials that the call writes out (the arguments of a variadic call). -/
theorem wpl_buildSlice_polys (hw : Region.wanted o (yielded ops a.tmps) = true) (t e n : Nat) (parts : List (Nat × Operand)) (hop : o.op = .buildSlice t n parts.toArray)
    (ht : P.underlying t = some (.slice e)) (hs : (P.info? e).map (·.size) = some 64) (hz : (P.info? e).bind (·.zero) = some (.agg (u8s 64 fun _ => 0)))
    (fs : List (Nat → Int)) (hn : fs.length = n) (hn0 : 0 < n) (hn1 : n ≤ 1000)
    (hp : (parts.map fun (x : Nat × Operand) => (x.1, a.eval x.2)) = fs.zipIdx.map fun x => (x.2, Value.agg (u8s 64 x.1)))
    (h : wpList P ops Q rest (a.put o.dst (.slice (some ⟨w.heap.size, 0, none⟩) n n)) (w.alloc (.cells (u8s (n * 64) (polysF fs)) e))) : wpList P ops Q (o :: rest) a w := by
  refine wpl_wanted hw fun K hK => ?_
  have hK := hK _ _ h
  obtain ⟨inf, hinf, hsz⟩ := Option.map_eq_some_iff.1 hs
  obtain ⟨inf', hinf', hz⟩ := Option.bind_eq_some_iff.1 hz
  obtain rfl : inf = inf' := by rw [hinf] at hinf'; exact Option.some.inj hinf'
  have hfill := fill_polys (n * 64) fs 0 (fun q => (u8s 64 fun _ => 0)[q % 64]!) (by omega)
  have hzero : (Array.range (n * 64)).map (fun x => (u8s 64 fun _ => 0)[x % (u8s 64 fun _ => 0).size]!) = arr (n * 64) (fun q => (u8s 64 fun _ => 0)[q % 64]!) := by
    apply Array.ext_getElem?
    intro i
    rw [arr_get, Array.getElem?_map, u8s_size]
    by_cases hi : i < n * 64
    · rw [if_pos hi, Array.getElem?_range, if_pos hi]; rfl
    · rw [if_neg hi, Array.getElem?_range, if_neg hi]; rfl
  unfold Oper.wp execOp
  simp only [hop, Instr.buildSlice, Sem.run_bind, run_underlying ht w, Result.andThen_ok, sizeOf, typeInfo, run_program, hinf, Sem.run_pure, hsz, zeroValue, List.map_toArray, hp, Value.cells]
  rw [if_neg (by simp only [Nat.reducePow]; omega), if_neg (by omega)]
  simp only [Sem.run_bind, run_program, Result.andThen_ok, hinf, Sem.run_pure, hz, hzero, hfill]
  simp only [Nat.zero_mul, Nat.zero_le, Nat.zero_add, true_and, Nat.sub_zero]
  have e1 : arr (n * 64) (fun q => if q < fs.length * 64 then Value.int .u8 (polysF fs q) else (u8s 64 fun _ => 0)[q % 64]!) = u8s (n * 64) (polysF fs) := by
    apply arr_ext; intro i hi; rw [if_pos (by omega)]
  rw [e1]
  simp [newRow, newObj, Oper.upon]
  exact hK

/-- An array that lies somewhere in a row of cells is read whole. -/
theorem wpl_load_mid (hw : Region.wanted o (yielded ops a.tmps) = true) (ty : TypeId) (x : Operand) (ho : o.op = .load ty x)
    (g off : Nat) (hx : a.eval x = .pointer (some ⟨g, off, none⟩)) (n e : Nat) (f : Nat → Value) (hc : ∀ j, j < n → w.cell? ⟨g, off + j, none⟩ = some (f j))
    (hu : P.underlying ty = some (.array n e)) (hi : (P.info? ty).map (·.size) = some n)
    (h : wpList P ops Q rest (a.put o.dst (.agg (arr n f))) w) : wpList P ops Q (o :: rest) a w := by
  refine wpl_wanted hw fun K hK => ?_
  have hK := hK _ _ h
  have hr := run_loadVar_mid (P := P) w g off ty ((List.range n).map f) (.array n e) (fun j v hv => by
    rw [List.getElem?_map] at hv
    obtain ⟨q, hq, rfl⟩ := Option.map_eq_some_iff.1 hv
    have hjn : j < n := by
      have := (List.getElem?_eq_some_iff.1 hq).1
      simpa using this
    rw [List.getElem?_range hjn] at hq
    obtain rfl := Option.some.inj hq
    exact hc j hjn) hu rfl (by simpa using hi)
  unfold Oper.wp execOp
  simp only [ho, hx, Instr.loadAt, Instr.sureAddr, Sem.run_bind, Sem.run_pure, Result.andThen_ok, hr]
  exact hK
end
end Go.Proofs.Ythkkicanockhgaa

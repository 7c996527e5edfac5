/- Several texts in one: Part, M0, Facts2, M1, M2. -/
import Derived.Test.YtojkngdabejjdaaBase
import Derived.Test.YtojkngdabejjdaaRegs
import Derived.Test.YtojkngdabejjdaaCode
set_option linter.unusedVariables false
set_option linter.unusedSimpArgs false
/- Laws: an array that is a part of a greater one: stored, read out of a slot. -/
namespace Go.Proofs.Ytojkngdabejjdaa
open Go.RowKit

/-- A part is written over. -/
theorem u8s_over (N m off : Nat) (F f : Nat → Int) (h : off + m ≤ N) :
    ((u8s N F).toList.take off ++ (u8s m f).toList ++ (u8s N F).toList.drop (off + m)).toArray = u8s N (fun j => if off ≤ j ∧ j < off + m then f (j - off) else F j) := by
  have hl : (u8s N F).toList.length = N := by rw [Array.length_toList, u8s_size]
  have hm : (u8s m f).toList.length = m := by rw [Array.length_toList, u8s_size]
  apply Array.ext_getElem?
  intro i
  rw [List.getElem?_toArray]
  by_cases h1 : i < off
  · rw [List.append_assoc, List.getElem?_append_left (by rw [List.length_take]; omega), List.getElem?_take, if_pos h1, Array.getElem?_toList, u8s_get _ (by omega), u8s_get _ (by omega), if_neg (by omega)]
  · by_cases h2 : i < off + m
    · rw [List.append_assoc, List.getElem?_append_right (by rw [List.length_take]; omega), List.length_take, hl, Nat.min_eq_left (by omega), List.getElem?_append_left (by omega), Array.getElem?_toList, u8s_get _ (by omega), u8s_get _ (by omega), if_pos (by omega)]
    · rw [List.getElem?_append_right (by rw [List.length_append, List.length_take]; omega), List.length_append, List.length_take, hl, Nat.min_eq_left (by omega), hm, List.getElem?_drop, Array.getElem?_toList, show off + m + (i - (off + m)) = i by omega]
      by_cases h3 : i < N
      · rw [u8s_get _ h3, u8s_get _ h3, if_neg (by omega)]
      · rw [Array.getElem?_eq_none (by rw [u8s_size]; omega), Array.getElem?_eq_none (by rw [u8s_size]; omega)]

section
variable {P : Program} {ops : Array Oper} {rest : List Oper} {o : Oper} {a : Act} {w : World} {Q : Exit → Act → World → Prop}

theorem wpl_store_part (hw : Region.wanted o (yielded ops a.tmps) = true) (t : TypeId) (x y : Operand) (hop : o.op = .store t x y) (g off : Nat) (hx : a.eval x = .pointer (some ⟨g, off, none⟩))
    (m N : Nat) (f F : Nat → Int) (hy : a.eval y = .agg (u8s m f)) (T : TypeId) (hb : Blk w g (u8s N F) T) (hs : (P.info? t).map (·.size) = some m) (ho : off + m ≤ N)
    (h : wpList P ops Q rest (a.put o.dst undef) (w.setRow g (u8s N (fun j => if off ≤ j ∧ j < off + m then f (j - off) else F j)))) : wpList P ops Q (o :: rest) a w := by
  refine wpl_wanted hw fun K hK => ?_
  have hK := hK _ _ h
  have hr := run_storeCells_at (P := P) g off T (u8s m f).toList 0 (u8s N F) w hb (by rw [Array.length_toList, u8s_size, u8s_size]; omega) (fun v hv => (Array.all_eq_true_iff_forall_mem.1 (u8s_oneCell m f)) v (by simpa using hv))
  simp only [Nat.add_zero, Array.length_toList, u8s_size] at hr
  rw [u8s_over N m off F f ho] at hr
  obtain ⟨i, hi, hsz⟩ := Option.map_eq_some_iff.1 hs
  unfold Oper.wp execOp
  simp only [hop, hx, hy, Instr.storeAt, Instr.sureAddr, storeVar, sizeOf, typeInfo, Value.cells]
  simp [Sem.run_bind, hi, hsz, u8s_size, hr, Oper.upon]
  exact hK

/-- An element, itself an array, of an array that lies in a slot. -/
theorem wpl_index_part (hw : Region.wanted o (yielded ops a.tmps) = true) (t : TypeId) (x ix : Operand) (hop : o.op = .index t x ix) (n e m : Nat) (F : Nat → Int) (e' : TypeId)
    (hx : a.eval x = .agg (u8s (n * m) F)) (k : IntKind) (i : Nat) (hi : a.eval ix = .int k (i : Int)) (hin : i < n)
    (ht : P.underlying t = some (.array n e)) (he : P.underlying e = some (.array m e')) (hs : (P.info? e).map (·.size) = some m)
    (h : wpList P ops Q rest (a.put o.dst (.agg (u8s m (fun j => F (i * m + j))))) w) : wpList P ops Q (o :: rest) a w := by
  refine wpl_wanted hw fun K hK => ?_
  have hK := hK _ _ h
  obtain ⟨inf, hinf, hsz⟩ := Option.map_eq_some_iff.1 hs
  have hsize : (sizeOf e).run P w = .ok m w := by simp [sizeOf, typeInfo, hinf, hsz, Sem.run_bind]
  have hag : (isAgg e).run P w = .ok true w := by unfold isAgg; rw [Sem.run_bind, run_underlying he w]; rfl
  have hex : (u8s (n * m) F).extract (i * m) (i * m + m) = u8s m (fun j => F (i * m + j)) := by
    have hle : i * m + m ≤ n * m := by rw [← Nat.succ_mul]; exact Nat.mul_le_mul_right _ hin
    refine eq_arr (by rw [Array.size_extract, u8s_size]; omega) fun j hj => ?_
    rw [Array.getElem?_extract, if_pos (by rw [u8s_size]; omega), u8s_get _ (by omega)]
  have hcond : (0 : Int) ≤ (i : Int) ∧ (i : Int) < (n : Int) := by omega
  unfold Oper.wp execOp
  simp only [hop, hx, hi, Instr.index, asIntOf, Sem.run_bind, Sem.run_pure, Result.andThen_ok, run_underlying ht w]
  rw [if_pos hcond]
  simp only [Sem.run_bind, hsize, Result.andThen_ok, Int.toNat_natCast, part, hag]
  simp only [if_true, Sem.run_bind, hsize, Result.andThen_ok, Sem.run_pure, hex]
  exact hK
end
end Go.Proofs.Ytojkngdabejjdaa

/- Laws: elements, themselves arrays, of an array: their places, loads, zero values. No program in sight. -/
namespace Go.Proofs.Ytojkngdabejjdaa
open Go.RowKit
section
variable {P : Program} {ops : Array Oper} {rest : List Oper} {o : Oper} {a : Act} {w : World} {Q : Exit → Act → World → Prop}
theorem wp_index_arrN (t e N m : Nat) (x i : Operand) (hop : o.op = .indexAddr t x i) (ht : P.underlying t = some (.array N e)) (hs : (P.info? e).map (·.size) = some m) (hm : m ≠ 0) (b k : Nat) (kd : IntKind)
    (hx : a.eval x = .pointer (some ⟨b, 0, none⟩)) (hi : a.eval i = .int kd (k : Int)) (hk : k < N) : o.wp P a w (fun a' w' => a' = a.put o.dst (.pointer (some ⟨b, k * m, none⟩)) ∧ Below w.heap.size w w') Q := by
  obtain ⟨ie, hie, hse⟩ := Option.map_eq_some_iff.1 hs
  unfold Oper.wp execOp
  simp [hop, hx, hi, Instr.indexAt, run_underlying ht w, asIntOf, Sem.run_bind, sizeOf, typeInfo, hie, hse, hk, Oper.upon, Addr.add, Instr.sureAddr]
  refine ⟨?_, Below.refl _ _⟩
  by_cases h0 : k = 0
  · subst h0; simp
  · rw [if_neg (by intro h; rcases Nat.mul_eq_zero.1 h with h | h <;> omega)]
theorem wp_index_at (t e N : Nat) (x i : Operand) (hop : o.op = .indexAddr t x i) (ht : P.underlying t = some (.array N e)) (hs : (P.info? e).map (·.size) = some 1) (b off k : Nat) (kd : IntKind)
    (hx : a.eval x = .pointer (some ⟨b, off, none⟩)) (hi : a.eval i = .int kd (k : Int)) (hk : k < N) : o.wp P a w (fun a' w' => a' = a.put o.dst (.pointer (some ⟨b, off + k, none⟩)) ∧ Below w.heap.size w w') Q := by
  obtain ⟨ie, hie, hse⟩ := Option.map_eq_some_iff.1 hs
  unfold Oper.wp execOp
  simp [hop, hx, hi, Instr.indexAt, run_underlying ht w, asIntOf, Sem.run_bind, sizeOf, typeInfo, hie, hse, hk, Oper.upon, Addr.add, Instr.sureAddr]
  refine ⟨?_, Below.refl _ _⟩
  by_cases h0 : k = 0
  · subst h0; first | rfl | simp
  · first | rfl | simp [h0]
theorem wp_load_midB (ty : TypeId) (x : Operand) (ho : o.op = .load ty x) (g off : Nat) (hx : a.eval x = .pointer (some ⟨g, off, none⟩)) (N n e : Nat) (F : Nat → Int) (T : TypeId) (hb : Blk w g (u8s N F) T) (hin : off + n ≤ N)
    (hu : P.underlying ty = some (.array n e)) (hi : (P.info? ty).map (·.size) = some n) :
    o.wp P a w (fun a' w' => a' = a.put o.dst (.agg (u8s n (fun j => F (off + j)))) ∧ Below w.heap.size w w') Q := by
  have hr := run_loadVar_mid (P := P) w g off ty ((List.range n).map (fun j => Value.int .u8 (F (off + j)))) (.array n e) (fun j v hv => by
    rw [List.getElem?_map] at hv
    obtain ⟨q, hq, rfl⟩ := Option.map_eq_some_iff.1 hv
    have hjn : j < n := by
      have := (List.getElem?_eq_some_iff.1 hq).1
      simpa using this
    rw [List.getElem?_range hjn] at hq
    obtain rfl := Option.some.inj hq
    rw [hb.cell, u8s_get _ (by omega)]) hu rfl (by simpa using hi)
  unfold Oper.wp execOp
  simp only [ho, hx, Instr.loadAt, Instr.sureAddr, Sem.run_bind, Sem.run_pure, Result.andThen_ok, hr]
  exact ⟨rfl, Below.refl _ _⟩
/-- The zero value of an array of arrays, written out ('Square{}'). -/
theorem wpl_build_zeroN (hw : Region.wanted o (yielded ops a.tmps) = true) (t n e m : Nat) (hop : o.op = .build t #[]) (cs : Array Value) (ht : P.underlying t = some (.array n e)) (hs : (P.info? e).map (·.size) = some m)
    (hz : (P.info? t).bind (·.zero) = some (.agg cs))
    (h : wpList P ops Q rest (a.put o.dst (.agg cs)) w) : wpList P ops Q (o :: rest) a w := by
  refine wpl_wanted hw fun K hK => ?_
  obtain ⟨i, hi, hz⟩ := Option.bind_eq_some_iff.1 hz
  obtain ⟨ie, hie, hse⟩ := Option.map_eq_some_iff.1 hs
  have hK := hK _ _ h
  unfold Oper.wp execOp
  simp [hop, Instr.build, zeroValue, typeInfo, hi, hz, Sem.run_bind, Value.cells, run_underlying ht w, sizeOf, hie, Instr.fill, Oper.upon]
  exact hK
theorem wp_not (t : TypeId) (x : Operand) (b : Bool) (hop : o.op = .unOp .not t x) (hx : a.eval x = .bool b) :
    o.wp P a w (fun a' w' => a' = a.put o.dst (.bool (!b)) ∧ Below w.heap.size w w') Q := by
  unfold Oper.wp execOp
  simp [hop, hx, Op.unary, Sem.run_bind, Oper.upon]
  exact Below.refl _ _
end
end Go.Proofs.Ytojkngdabejjdaa

/- Closed facts of the program: the types of vectors and matrices. -/
namespace Go.Proofs.Ytojkngdabejjdaa
open Go.RowKit
end Go.Proofs.Ytojkngdabejjdaa

/- Walks: laws.toRow, laws.toSquare. -/
namespace Go.Proofs.Ytojkngdabejjdaa
open Go.RowKit
end Go.Proofs.Ytojkngdabejjdaa

/- Walks: checks of vectors and matrices on both sides. -/
namespace Go.Proofs.Ytojkngdabejjdaa
open Go.RowKit

/-- A vector of a size: numbers modulo p, zeros from n on. -/
def RowOk (p n : Int) (f : Nat → Int) : Prop := ∀ j, j < 6 → f j < p ∧ (n ≤ (j : Int) → f j = 0)
def BadAt (p n : Int) (f : Nat → Int) (k : Nat) : Prop := p ≤ f k ∨ (n ≤ (k : Int) ∧ f k ≠ 0)
theorem RowOk_bad {p n : Int} {f : Nat → Int} {k : Nat} (hk : k < 6) (h : BadAt p n f k) : ¬ RowOk p n f := fun h1 => by
  have := h1 k hk
  rcases h with h | ⟨h, h2⟩
  · omega
  · exact h2 (this.2 h)

end Go.Proofs.Ytojkngdabejjdaa

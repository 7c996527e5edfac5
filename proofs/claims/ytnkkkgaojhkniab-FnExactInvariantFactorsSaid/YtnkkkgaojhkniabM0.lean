/- Laws: elements, themselves arrays, of an array: their places, loads, zero values. No program in sight. -/
import Derived.Test.YtnkkkgaojhkniabRegs
import Derived.Test.YtnkkkgaojhkniabPart
set_option linter.unusedVariables false
set_option linter.unusedSimpArgs false
namespace Go.Proofs.Ytnkkkgaojhkniab
open Go.RowKit
section
variable {P : Program} {ops : Array Oper} {rest : List Oper} {o : Oper} {a : Act} {w : World} {Q : Exit → Act → World → Prop}
theorem wp_index_arrN (t e N m : Nat) (x i : Operand) (hop : o.op = .indexAddr t x i) (ht : P.underlying t = some (.array N e)) (hs : (P.info? e).map (·.size) = some m) (hm : m ≠ 0) (b k : Nat) (kd : IntKind)
    (hx : a.eval x = .pointer (some ⟨b, 0, none⟩)) (hi : a.eval i = .int kd (k : Int)) (hk : k < N) : o.wp P a w (fun a' w' => a' = a.put o.dst (.pointer (some ⟨b, k * m, none⟩)) ∧ Below w.heap.size w w') Q := by
  obtain ⟨ie, hie, hse⟩ := Option.map_eq_some_iff.1 hs
  unfold Oper.wp execOp
  simp [hop, hx, hi, Instr.indexAt, run_underlying ht w, asIntOf, Sem.run_bind, sizeOf, typeInfo, hie, hse, hk, Oper.upon, Addr.add, Instr.sureAddr]
  refine ⟨?_, Below.refl _ _⟩
  by_cases h0 : k = 0
  · subst h0; simp
  · rw [if_neg (by intro h; rcases Nat.mul_eq_zero.1 h with h | h <;> omega)]
theorem wp_index_at (t e N : Nat) (x i : Operand) (hop : o.op = .indexAddr t x i) (ht : P.underlying t = some (.array N e)) (hs : (P.info? e).map (·.size) = some 1) (b off k : Nat) (kd : IntKind)
    (hx : a.eval x = .pointer (some ⟨b, off, none⟩)) (hi : a.eval i = .int kd (k : Int)) (hk : k < N) : o.wp P a w (fun a' w' => a' = a.put o.dst (.pointer (some ⟨b, off + k, none⟩)) ∧ Below w.heap.size w w') Q := by
  obtain ⟨ie, hie, hse⟩ := Option.map_eq_some_iff.1 hs
  unfold Oper.wp execOp
  simp [hop, hx, hi, Instr.indexAt, run_underlying ht w, asIntOf, Sem.run_bind, sizeOf, typeInfo, hie, hse, hk, Oper.upon, Addr.add, Instr.sureAddr]
  refine ⟨?_, Below.refl _ _⟩
  by_cases h0 : k = 0
  · subst h0; first | rfl | simp
  · first | rfl | simp [h0]
theorem wp_load_midB (ty : TypeId) (x : Operand) (ho : o.op = .load ty x) (g off : Nat) (hx : a.eval x = .pointer (some ⟨g, off, none⟩)) (N n e : Nat) (F : Nat → Int) (T : TypeId) (hb : Blk w g (u8s N F) T) (hin : off + n ≤ N)
    (hu : P.underlying ty = some (.array n e)) (hi : (P.info? ty).map (·.size) = some n) :
    o.wp P a w (fun a' w' => a' = a.put o.dst (.agg (u8s n (fun j => F (off + j)))) ∧ Below w.heap.size w w') Q := by
  have hr := run_loadVar_mid (P := P) w g off ty ((List.range n).map (fun j => Value.int .u8 (F (off + j)))) (.array n e) (fun j v hv => by
    rw [List.getElem?_map] at hv
    obtain ⟨q, hq, rfl⟩ := Option.map_eq_some_iff.1 hv
    have hjn : j < n := by
      have := (List.getElem?_eq_some_iff.1 hq).1
      simpa using this
    rw [List.getElem?_range hjn] at hq
    obtain rfl := Option.some.inj hq
    rw [hb.cell, u8s_get _ (by omega)]) hu rfl (by simpa using hi)
  unfold Oper.wp execOp
  simp only [ho, hx, Instr.loadAt, Instr.sureAddr, Sem.run_bind, Sem.run_pure, Result.andThen_ok, hr]
  exact ⟨rfl, Below.refl _ _⟩
/-- The zero value of an array of arrays, written out ('Square{}'). -/
theorem wpl_build_zeroN (hw : Region.wanted o (yielded ops a.tmps) = true) (t n e m : Nat) (hop : o.op = .build t #[]) (cs : Array Value) (ht : P.underlying t = some (.array n e)) (hs : (P.info? e).map (·.size) = some m)
    (hz : (P.info? t).bind (·.zero) = some (.agg cs))
    (h : wpList P ops Q rest (a.put o.dst (.agg cs)) w) : wpList P ops Q (o :: rest) a w := by
  refine wpl_wanted hw fun K hK => ?_
  obtain ⟨i, hi, hz⟩ := Option.bind_eq_some_iff.1 hz
  obtain ⟨ie, hie, hse⟩ := Option.map_eq_some_iff.1 hs
  have hK := hK _ _ h
  unfold Oper.wp execOp
  simp [hop, Instr.build, zeroValue, typeInfo, hi, hz, Sem.run_bind, Value.cells, run_underlying ht w, sizeOf, hie, Instr.fill, Oper.upon]
  exact hK
theorem wp_not (t : TypeId) (x : Operand) (b : Bool) (hop : o.op = .unOp .not t x) (hx : a.eval x = .bool b) :
    o.wp P a w (fun a' w' => a' = a.put o.dst (.bool (!b)) ∧ Below w.heap.size w w') Q := by
  unfold Oper.wp execOp
  simp [hop, hx, Op.unary, Sem.run_bind, Oper.upon]
  exact Below.refl _ _
end
end Go.Proofs.Ytnkkkgaojhkniab

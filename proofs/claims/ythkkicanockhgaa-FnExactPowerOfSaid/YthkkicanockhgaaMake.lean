/- A law: a new slice of zeros whose elements are one cell each. -/
import Derived.Test.YthkkicanockhgaaOps
namespace Go.Proofs.Ythkkicanockhgaa
open Go.RowKit
section
variable {P : Program} {ops : Array Oper} {rest : List Oper} {o : Oper} {a : Act} {w : World} {Q : Exit → Act → World → Prop}
theorem wpl_make_one (hw : Region.wanted o (yielded ops a.tmps) = true) (t e : TypeId) (l c : Operand) (hop : o.op = .makeSlice t l c) (z : Value)
    (ht : P.underlying t = some (.slice e)) (hinfo : (P.info? e).map (fun i => (i.zero, i.size, i.bytes)) = some (some z, 1, 8)) (hz1 : z.cells = #[z])
    (kl kc : IntKind) (L C : Int) (n : Nat) (hl : a.eval l = .int kl L) (hc : a.eval c = .int kc C) (hL : L = (n : Int)) (hC : C = (n : Int)) (hn : n ≤ 1000000000000)
    (h : wpList P ops Q rest (a.put o.dst (.slice (some ⟨w.heap.size, 0, none⟩) n n)) (w.alloc (.cells (arr n fun _ => z) e))) : wpList P ops Q (o :: rest) a w := by
  refine wpl_wanted hw fun K hK => ?_
  have hK := hK _ _ h
  subst hL hC
  obtain ⟨i, hi, hz, hsz, hby⟩ := info_parts hinfo
  have hr := run_make (P := P) w t e i z ht hi hz kl kc (n : Int) (n : Int) (by omega) (Int.le_refl _) (by rw [hby]; omega) (by omega)
  have e2 : madeCells z.cells ((n : Int).toNat * i.size) = arr n fun _ => z := by
    rw [Int.toNat_natCast, hsz, Nat.mul_one, hz1]
    apply Array.ext_getElem?
    intro j
    rw [← Array.getElem?_toList, toList_madeCells_one, arr_get, List.getElem?_replicate]
  rw [e2, Int.toNat_natCast] at hr
  unfold Oper.wp execOp
  simp only [hop, hl, hc, Sem.run_bind, hr, Result.andThen_ok]
  exact hK
end
end Go.Proofs.Ythkkicanockhgaa

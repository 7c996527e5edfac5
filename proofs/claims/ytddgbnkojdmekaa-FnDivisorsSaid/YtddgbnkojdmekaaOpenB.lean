/- An argument that is a slice of bytes, opened. -/
import Derived.ChangeSlices
import Derived.Test.YtddgbnkojdmekaaOpenS
import Derived.Test.YtddgbnkojdmekaaDr6
set_option linter.unusedVariables false
set_option linter.unusedSimpArgs false
namespace Go.Proofs.Ytddgbnkojdmekaa
open Go.RowKit
section
variable {H : Type} {enc : TypeId × Value → H} {P : Program} {w : World} {base : Nat} {held : Bool} {t : TypeId}
theorem open_code {r : Reach} {b0 e : Nat} {v : Value} {d : DataW H} {p : List MemPlace} (ht : P.underlying t = some (.slice e)) (he : P.underlying e = some (.int .u8)) (hce : P.cellsOf e = 1)
    (hv : Value.okWide P w r b0 t v) (h : DataW.Trod enc P w base (fun _ => true) held t v d p) :
    ∃ (oa : Option Addr) (len cap : Nat), v = .slice oa len cap ∧ len ≤ maxLen ∧ CodeAt w oa len ∧ ∀ x ∈ p, x.block < w.heap.size := by
  obtain ⟨oa, len, cap, rfl⟩ := WideShapes.okWide_slice ht hv
  obtain ⟨fuel, hf⟩ := h
  rcases ChangeShapes.open_ints ht he hce hf with ⟨h1, h2⟩ | ⟨a, len', cap', zs, h1, hb, hl, hm, hz, h2, hcell, hw⟩
  · simp only [Value.cells, List.cons.injEq, Value.slice.injEq, and_true] at h1
    obtain ⟨rfl, rfl, rfl⟩ := h1
    simp only [Prod.mk.injEq] at h2
    obtain ⟨_, rfl⟩ := h2
    exact ⟨none, 0, 0, rfl, by unfold maxLen; omega, fun h => absurd h (by omega), fun x hx => by cases hx⟩
  · simp only [Value.cells, List.cons.injEq, Value.slice.injEq, and_true] at h1
    obtain ⟨rfl, rfl, rfl⟩ := h1
    simp only [Prod.mk.injEq] at h2
    obtain ⟨_, rfl⟩ := h2
    simp only [if_true] at hz
    have first : 0 < zs.length → a = ⟨a.block, a.off, none⟩ ∧ a.block < w.heap.size := fun h0 => by
      have h1 := hcell 0 h0
      have e : a.add 0 = a := by unfold Addr.add; simp
      rw [e] at h1
      exact spot_of_cell h1
    refine ⟨some a, len, cap, rfl, by omega, fun h0 => ?_, fun x hx => ?_⟩
    · obtain ⟨ha, hlt⟩ := first (by omega)
      refine ⟨a.block, a.off, by rw [← ha], hlt, fun i hi => ?_⟩
      have h5 := hcell i (by omega)
      have h6 : a.add i = ⟨a.block, a.off + i, none⟩ := (congrArg (·.add i) ha).trans (add_at _ _ _)
      have h7 := hw (zs.getD i 0) (by
        rw [List.getD_eq_getElem?_getD, List.getElem?_eq_getElem (by omega : i < zs.length)]
        exact List.getElem_mem _)
      have h8 := bounds_u8 h7
      exact ⟨zs.getD i 0, (congrArg w.cell? h6).symm.trans h5, by omega, by omega⟩
    · obtain ⟨i, hi, rfl⟩ := MemPlace.mem_row.1 hx
      exact (first (by omega)).2
end
end Go.Proofs.Ytddgbnkojdmekaa

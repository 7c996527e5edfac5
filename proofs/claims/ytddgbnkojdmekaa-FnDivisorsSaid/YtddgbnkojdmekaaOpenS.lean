/- Arguments that are slices of byte arrays, opened. -/
import Derived.ChangeReads
import Derived.Test.YtddgbnkojdmekaaOpen
import Derived.Test.YtddgbnkojdmekaaCode
set_option linter.unusedVariables false
set_option linter.unusedSimpArgs false
namespace Go.Proofs.Ytddgbnkojdmekaa
open Go.RowKit
section
variable {H : Type} {enc : TypeId × Value → H} {P : Program} {w : World} {base : Nat} {held : Bool} {t : TypeId}
theorem add_add (a : Addr) (i j : Nat) : (a.add i).add j = a.add (i + j) := by
  unfold Addr.add
  by_cases hi : i = 0
  · subst hi; simp
  · by_cases hj : j = 0
    · subst hj; simp
    · simp [hi, hj, show i + j ≠ 0 by omega, Nat.add_assoc]
theorem spot_of_cell {w : World} {a : Addr} {v : Value} (h : w.cell? a = some v) : a = ⟨a.block, a.off, none⟩ ∧ a.block < w.heap.size := by
  unfold World.cell? at h
  split at h
  · rename_i h1
    split at h
    · cases h
    · rename_i h2
      refine ⟨?_, (Array.getElem?_eq_some_iff.1 h1).1⟩
      rcases a with ⟨b, o, s⟩
      cases s
      · rfl
      · simp at h2
  · cases h
theorem add_at (b o i : Nat) : (⟨b, o, none⟩ : Addr).add i = ⟨b, o + i, none⟩ := by unfold Addr.add; split <;> simp_all
/-- An argument that is a slice of byte arrays. -/
theorem open_arrS {r : Reach} {b0 n e e' : Nat} {v : Value} {d : DataW H} {p : List MemPlace} (ht : P.underlying t = some (.slice e)) (he : P.underlying e = some (.array n e')) (he' : P.underlying e' = some (.int .u8)) (hce' : P.cellsOf e' = 1) (hce : P.cellsOf e = n) (hn : 0 < n)
    (hv : Value.okWide P w r b0 t v) (h : DataW.Trod enc P w base (fun _ => true) held t v d p) :
    ∃ (oa : Option Addr) (len cap : Nat) (F : Nat → Int), v = .slice oa len cap ∧ len ≤ maxLen ∧ CellsAt w oa (len * n) (fun j => .int .u8 (F j)) ∧ (∀ i, 0 ≤ F i ∧ F i ≤ 255) ∧ ∀ x ∈ p, x.block < w.heap.size := by
  obtain ⟨oa, len, cap, rfl⟩ := WideShapes.okWide_slice ht hv
  obtain ⟨fuel, hf⟩ := h
  rcases DataW.trod_slice ht hf with ⟨h1, h2⟩ | ⟨a, len', cap', elems, rest, k, _, h1, h2, hb, hl, hm, hlen, hel, hsp, _⟩
  · simp only [Value.cells, List.cons.injEq, Value.slice.injEq, and_true] at h1
    obtain ⟨rfl, rfl, rfl⟩ := h1
    simp only [Prod.mk.injEq] at h2
    obtain ⟨_, rfl⟩ := h2
    exact ⟨none, 0, 0, fun _ => 0, rfl, by unfold maxLen; omega, fun h => absurd h (by omega), fun _ => ⟨Int.le_refl 0, (by decide : (0 : Int) ≤ 255)⟩, fun x hx => by cases hx⟩
  · simp only [Value.cells, List.cons.injEq, Value.slice.injEq, and_true] at h1
    obtain ⟨rfl, rfl, rfl⟩ := h1
    simp only [Prod.mk.injEq] at h2
    obtain ⟨_, rfl⟩ := h2
    obtain ⟨hrl, hrest⟩ := hsp rfl
    rw [hce] at hel hrest
    have one : ∀ (y : DataW H × List MemPlace) (i : Nat), (w.cells? base (a.add (i * n)) n).bind (DataW.trod enc P w base (fun _ => true) held k e) = some y → y.2 = [] ∧ ∀ j, j < n → ∃ z : Int, 0 ≤ z ∧ z ≤ 255 ∧ w.cell? (a.add (i * n + j)) = some (.int .u8 z) := by
      intro y i hy
      obtain ⟨cs, hcs, hy⟩ := Option.bind_eq_some_iff.1 hy
      obtain ⟨_, hcl, hcell⟩ := World.cells?_some hcs
      obtain ⟨hB, hy2⟩ := trod_bytes he he' hce' hce hy
      refine ⟨hy2, fun j hj => ?_⟩
      have h1 := hcell j hj
      rw [add_add, List.getElem?_eq_getElem (by omega)] at h1
      obtain ⟨z, hz, h0, h9⟩ := hB _ (List.getElem_mem (l := cs) (n := j) (by omega))
      exact ⟨z, h0, h9, by rw [h1, hz]⟩
    have any : ∀ (i : Nat) (y : DataW H × List MemPlace), (elems ++ rest)[i]? = some y → y.2 = [] ∧ ∀ j, j < n → ∃ z : Int, 0 ≤ z ∧ z ≤ 255 ∧ w.cell? (a.add (i * n + j)) = some (.int .u8 z) := by
      intro i y hy
      by_cases hi : i < len
      · exact one y i (by rw [hel i hi, ← hy, List.getElem?_append_left (by omega)])
      · have hi' : i - len < cap - len := by
          have := (List.getElem?_eq_some_iff.1 hy).1
          rw [List.length_append] at this
          omega
        have h3 := hrest (i - len) hi'
        rw [show len + (i - len) = i by omega] at h3
        exact one y i (by rw [h3, ← hy, List.getElem?_append_right (by omega), hlen])
    have first : 0 < elems.length + rest.length → a = ⟨a.block, a.off, none⟩ ∧ a.block < w.heap.size := fun h0 => by
      obtain ⟨_, h1⟩ := any 0 _ (List.getElem?_eq_getElem (by rw [List.length_append]; exact h0))
      obtain ⟨z, _, _, h2⟩ := h1 0 hn
      rw [Nat.zero_mul] at h2
      exact spot_of_cell h2
    have cell : ∀ q, ∃ z : Int, 0 ≤ z ∧ z ≤ 255 ∧ (q < len * n → w.cell? (a.add q) = some (.int .u8 z)) := fun q => by
      by_cases hq : q < len * n
      · have hqn : q / n < len := (Nat.div_lt_iff_lt_mul hn).2 hq
        obtain ⟨_, h1⟩ := any (q / n) _ (List.getElem?_eq_getElem (by rw [List.length_append]; omega))
        obtain ⟨z, h2, h3, h4⟩ := h1 (q % n) (Nat.mod_lt _ hn)
        rw [Nat.mul_comm, Nat.div_add_mod] at h4
        exact ⟨z, h2, h3, fun _ => h4⟩
      · exact ⟨0, by omega, by omega, fun h => absurd h hq⟩
    refine ⟨some a, len, cap, fun q => Classical.choose (cell q), rfl, by omega, fun h0 => ?_, fun q => ⟨(Classical.choose_spec (cell q)).1, (Classical.choose_spec (cell q)).2.1⟩, fun x hx => ?_⟩
    · have hlp : 0 < len := Nat.pos_of_ne_zero fun e => by rw [e, Nat.zero_mul] at h0; omega
      obtain ⟨ha, _⟩ := first (by omega)
      refine ⟨a.block, a.off, by rw [← ha], fun q hq => ?_⟩
      have h5 := (Classical.choose_spec (cell q)).2.2 hq
      have h6 : a.add q = ⟨a.block, a.off + q, none⟩ := (congrArg (·.add q) ha).trans (add_at _ _ _)
      exact (congrArg w.cell? h6).symm.trans h5
    · rcases List.mem_append.1 hx with hx | hx
      · obtain ⟨i, hi, rfl⟩ := MemPlace.mem_row.1 hx
        exact (first (Nat.pos_of_ne_zero fun e => by rw [e, Nat.zero_mul] at hi; omega)).2
      · obtain ⟨y, hy, hx⟩ := List.mem_flatMap.1 hx
        obtain ⟨i, hi⟩ := List.getElem?_of_mem hy
        rw [(any i y hi).1] at hx
        cases hx
theorem below_trodS {t : TypeId} (hl : laidOutB P = true) (hr : P.readableRec t = true) (hrow : t < P.types.size) {W W' : World} {v : Value} {d : DataW H} {p : List MemPlace}
    (h : DataW.Trod enc P W 0 (fun _ => true) true t v d p) (hb : Below W.heap.size W W') (hp : ∀ x ∈ p, x.block < W.heap.size) :
    DataW.Trod enc P W' 0 (fun b => decide (b < W.heap.size)) true t v d p := Below.trod hl hr hrow h hb hp
end
end Go.Proofs.Ytddgbnkojdmekaa

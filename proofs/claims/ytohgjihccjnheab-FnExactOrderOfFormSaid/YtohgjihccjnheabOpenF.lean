/- Arguments of structs of two byte arrays, opened. -/
import Derived.Test.YtohgjihccjnheabOpen
import Derived.ChangeSame
set_option linter.unusedVariables false
set_option linter.unusedSimpArgs false
namespace Go.Proofs.Ytohgjihccjnheab
open Go.RowKit
section
variable {H : Type} {enc : TypeId × Value → H} {P : Program} {w : World} {base : Nat} {spare : Nat → Bool} {held : Bool} {fuel : Nat} {t : TypeId} {cs : List Value} {x : DataW H × List MemPlace}
/-- A struct of two fields of a type, of n cells each. -/
def pairB (P : Program) (t e n : Nat) : Bool := match P.underlying t with
  | some (.struct fs) => (match fs.toList with
    | [f0, f1] => f0.type == e && f1.type == e && f0.offset == 0 && f1.offset == n
    | _ => false)
  | _ => false
theorem pairB_spec {e n : Nat} (h : pairB P t e n = true) : ∃ f0 f1, P.underlying t = some (.struct #[f0, f1]) ∧ f0.type = e ∧ f1.type = e ∧ f0.offset = 0 ∧ f1.offset = n := by
  unfold pairB at h
  split at h
  · rename_i fs hu
    split at h
    · rename_i f0 f1 hl
      simp only [Bool.and_eq_true, beq_iff_eq] at h
      have hfs : fs = #[f0, f1] := by rw [← Array.toArray_toList (xs := fs), hl]
      rw [hfs] at hu
      exact ⟨f0, f1, hu, h.1.1.1, h.1.1.2, h.1.2, h.2⟩
    · cases h
  · cases h
theorem open_pair {r : Reach} {b0 n e e' : Nat} {v : Value} {d : DataW H} {p : List MemPlace} (hp : pairB P t e n = true) (he : P.underlying e = some (.array n e')) (he' : P.underlying e' = some (.int .u8)) (hce' : P.cellsOf e' = 1) (hce : P.cellsOf e = n) (hct : P.cellsOf t = n + n)
    (hv : Value.okWide P w r b0 t v) (h : DataW.Trod enc P w base spare held t v d p) : ∃ f : Nat → Int, v = .agg (u8s (n + n) f) ∧ (∀ i, 0 ≤ f i ∧ f i ≤ 255) ∧ p = [] := by
  obtain ⟨f0, f1, hu, h0, h1, o0, o1⟩ := pairB_spec hp
  have hag : ∃ cs, v = .agg cs ∧ cs.size = P.cellsOf t := by
    simp only [Value.okWide, hu] at hv
    obtain ⟨cs, h1, h2, _⟩ := hv
    exact ⟨cs, h1, h2⟩
  obtain ⟨cs, rfl, hsz⟩ := hag
  obtain ⟨fuel, hf⟩ := h
  have hf2 : DataW.trod enc P w base spare held fuel t cs.toList = some (d, p) := by simpa [Value.cells] using hf
  obtain ⟨y0, y1, k, hx, hl, ht0, ht1⟩ := Go.ChangeShapes.trod_struct2 hu hf2
  rw [h0, o0, hce] at ht0
  rw [h1, o1, hce] at ht1
  obtain ⟨b0, p0⟩ := trod_bytes he he' hce' hce ht0
  obtain ⟨b1, p1⟩ := trod_bytes he he' hce' hce ht1
  have hby : BytesL cs.toList := fun v hv => by
    rw [← List.take_append_drop n cs.toList, List.mem_append] at hv
    rcases hv with hv | hv
    · exact b0 v (by simpa using hv)
    · refine b1 v ?_
      rw [List.take_of_length_le (by rw [List.length_drop]; rw [hct] at hl; omega)]
      exact hv
  obtain ⟨f, rfl, hb⟩ := bytes_u8s (hsz.trans hct) hby
  refine ⟨f, rfl, hb, ?_⟩
  have : p = y0.2 ++ y1.2 := congrArg Prod.snd hx
  rw [this, p0, p1]; rfl
end
end Go.Proofs.Ytohgjihccjnheab

/- Walks: what a polynomial leads a vector to. -/
import Derived.Test.YtnkkkgaojhkniabM8
set_option linter.unusedVariables false
set_option linter.unusedSimpArgs false
namespace Go.Proofs.Ytnkkkgaojhkniab
open Go.RowKit

/-- The rows of a matrix as lists. -/
def rowsL (F : Nat → Int) (i : Nat) : List Int := if i < 6 then mkp 6 (fun c => F (i * 6 + c)) else []
theorem mkp6_Po {p : Int} {f : Nat → Int} (hp : Pr p) (hf : By f) (h : ∀ j, j < 6 → f j < p) : Po p (mkp 6 f) :=
  ⟨mkp_Tr _ _, Md_mkp (by have := hp.pos; omega) fun i hi => ⟨(hf i).1, h i hi⟩⟩
theorem mkp64_Po {p : Int} {f : Nat → Int} (hp : Pr p) (hf : By f) (h : ∀ j, j < 64 → f j < p) : P64 p (mkp 64 f) :=
  ⟨hp, ⟨mkp_Tr _ _, Md_mkp (by have := hp.pos; omega) fun i hi => ⟨(hf i).1, h i hi⟩⟩, mkp_length _ _⟩
theorem mkp6_len {p : Int} {f : Nat → Int} {n : Nat} (h : Po p (mkp 6 f)) (hz : ∀ j, n ≤ j → j < 6 → f j = 0) : (mkp 6 f).length ≤ n := by
  by_cases h0 : (mkp 6 f).length ≤ n
  · exact h0
  · have h1 := h.lead_len (by omega)
    have h2 := mkp_length 6 f
    rw [mkp_cf, if_pos (by omega), hz _ (by omega) (by omega)] at h1
    omega
theorem RowOk.r6 {p : Int} {n : Nat} {f : Nat → Int} (hp : Pr p) (hf : By f) (h : RowOk p n f) : R6 p (mkp 6 f) ∧ (mkp 6 f).length ≤ n := by
  have h1 := mkp6_Po hp hf fun j hj => (h j hj).1
  exact ⟨⟨hp, h1, mkp_length 6 f⟩, mkp6_len h1 fun j hn hj => (h j hj).2 (by omega)⟩
theorem SqOk.mx {p : Int} {n : Nat} {F : Nat → Int} (hF : By F) (h : SqOk p n F) : Mx p n F (rowsL F) := by
  have h1 : ∀ i, i < 6 → R6 p (mkp 6 (fun c => F (i * 6 + c))) ∧ (mkp 6 (fun c => F (i * 6 + c))).length ≤ n := fun i hi => RowOk.r6 h.1 (fun c => hF _) (h.2.2 i hi).1
  refine ⟨h.1, by have := h.2.1; omega, fun i => ?_, fun i => ?_, fun i j hi hj => ?_⟩
  · unfold rowsL; split
    · exact (h1 i ‹_›).1.po
    · exact Po_nil (by have := h.1.pos; omega)
  · unfold rowsL; split
    · exact (h1 i ‹_›).2
    · simp
  · unfold rowsL
    rw [if_pos (by have := h.2.1; omega), mkp_cf, if_pos hj]
theorem u8s_mkp6 (f : Nat → Int) : u8s 6 f = u8s 6 (cf (mkp 6 f)) := u8s_ext fun i hi => by rw [mkp_cf, if_pos hi]
theorem matrix_rows (F : Nat → Int) (n : Nat) (w : World) (hF : By F) (hn : n ≤ 6) : Calls Try.prog 32 #[.int .i64 n, .agg (u8s 36 F)] w fun e w' => ∃ v, e = .returned v ∧ IsRows w' v n (rowsL F) ∧ Below w.heap.size w w' :=
  (matrix_any F n w hF hn).mono fun e w' ⟨v, h1, ⟨R, oa, cap, e1, e2, e3, e4, e5⟩, h3⟩ => ⟨v, h1, ⟨R, oa, cap, e1, e2, e3, e4, fun i hi => by unfold rowsL; rw [if_pos (by omega)]; exact e5 i hi⟩, h3⟩
end Go.Proofs.Ytnkkkgaojhkniab

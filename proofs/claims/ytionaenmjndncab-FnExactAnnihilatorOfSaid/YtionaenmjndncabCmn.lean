/- Several texts in one: C1, C2, C3, C4, C5. -/
import Derived.Test.YtionaenmjndncabRws
import Derived.Test.YtionaenmjndncabSpc
import Derived.Test.YtionaenmjndncabRegs
import Derived.Test.YtionaenmjndncabSpd
set_option linter.unusedVariables false
set_option linter.unusedSimpArgs false
/- Walks: sums and differences of polynomials on both sides. -/
namespace Go.Proofs.Ytionaenmjndncab
open Go.RowKit

theorem by2 {f g : Nat → Int} (hf : By f) (hg : By g) : ∀ h ∈ [f, g], By h := by
  intro h hh
  simp only [List.mem_cons, List.not_mem_nil, or_false] at hh
  rcases hh with rfl | rfl
  · exact hf
  · exact hg
theorem Good.md {p : Int} {fs : List (Nat → Int)} (h : Good p fs) {f : Nat → Int} (hm : f ∈ fs) (hf : By f) : Po p (mkp 64 f) :=
  ⟨mkp_Tr _ _, Md_mkp (by have := h.1.pos; omega) fun i hi => ⟨(hf i).1, h.2 f hm i hi⟩⟩
theorem told_sum (p t : Int) (f g : Nat → Int) : u8s 64 (toldF (addp p (mkp 64 f) (mkp 64 g) t)) = u8s 64 (sumF p t f g) ∧ toldC (addp p (mkp 64 f) (mkp 64 g) t) = 0 := by
  have hL64 : (addp p (mkp 64 f) (mkp 64 g) t).length ≤ 64 := Nat.le_trans (addp_length p _ _ t) (Nat.max_le.2 ⟨mkp_length 64 f, mkp_length 64 g⟩)
  refine ⟨u8s_ext fun i hi => ?_, if_pos hL64⟩
  unfold toldF
  rw [if_pos hL64, addp_cf, mkp_cf, mkp_cf, if_pos hi, if_pos hi]; rfl
theorem mkp_big (f : Nat → Int) : (mkp 64 f).length ≤ 100000000 := by have := mkp_length 64 f; omega
theorem By_of_Po {p : Int} {xs : List Int} (hp : Pr p) (h : Po p xs) (i : Nat) : 0 ≤ cf xs i ∧ cf xs i ≤ 255 := by
  have := cf_lt7 hp h.md i; omega
end Go.Proofs.Ytionaenmjndncab

/- Walks: products and divisions of polynomials on both sides. -/
namespace Go.Proofs.Ytionaenmjndncab
open Go.RowKit

theorem Good.p64 {p : Int} {fs : List (Nat → Int)} (h : Good p fs) {f : Nat → Int} (hm : f ∈ fs) (hf : By f) : P64 p (mkp 64 f) := ⟨h.1, h.md hm hf, mkp_length 64 f⟩
theorem u8s_mkp (f : Nat → Int) : u8s 64 f = u8s 64 (cf (mkp 64 f)) := u8s_ext fun i hi => by rw [mkp_cf, if_pos hi]
theorem l01Times_arr (f g : Nat → Int) (p : Int) (w : World) (hx : P64 p (mkp 64 f)) (hy : P64 p (mkp 64 g)) :
    Calls Try.prog 50 #[.int .i64 p, .agg (u8s 64 f), .agg (u8s 64 g)] w fun e w' => e = .returned (.tuple #[.agg (u8s 64 (toldF (mulp p (mkp 64 f) (mkp 64 g)))), .bool (decide ((mulp p (mkp 64 f) (mkp 64 g)).length ≤ 64))]) ∧ Below w.heap.size w w' := by
  rw [u8s_mkp f, u8s_mkp g]; exact l01Times_any _ _ p w hx hy
end Go.Proofs.Ytionaenmjndncab

/- Walks: divisions of polynomials on both sides. -/
namespace Go.Proofs.Ytionaenmjndncab
open Go.RowKit

theorem mkp_zero_iff (g : Nat → Int) : (mkp 64 g).length = 0 ↔ ∀ i, i < 64 → g i = 0 := by
  constructor
  · intro h i hi
    have := mkp_cf 64 g i
    rw [if_pos hi, List.length_eq_zero_iff.1 h, cf_nil] at this
    exact this.symm
  · intro h
    have := Tr_length_le (mkp_Tr 64 g) (n := 0) fun i _ => by rw [mkp_cf]; split; (· exact h i ‹_›); rfl
    omega
theorem mkp_zero_dec (g : Nat → Int) {z : Bool} (h : decide ((mkp 64 g).length = 0) = z) {inst : Decidable (∀ i, i < 64 → g i = 0)} : @decide (∀ i, i < 64 → g i = 0) inst = z := by
  rw [← h]; exact decide_eq_decide.2 (mkp_zero_iff g).symm
end Go.Proofs.Ytionaenmjndncab

/- Walks: greatest common divisors with their factors on both sides. -/
namespace Go.Proofs.Ytionaenmjndncab
open Go.RowKit

theorem bzl_P64 {p : Int} : ∀ (n : Nat) {A B : Nat} {a b u x v y : List Int}, BzP p A B a b u x v y → P64 p (bzl p n a b u x v y).1 ∧ P64 p (bzl p n a b u x v y).2.1 ∧ P64 p (bzl p n a b u x v y).2.2
  | 0, _, _, _, _, _, _, _, _, h => ⟨h.a, h.u, h.v⟩
  | n + 1, A, B, a, b, u, x, v, y, h => by
    by_cases hb : b = []
    · subst hb; rw [bzl_stop]; exact ⟨h.a, h.u, h.v⟩
    · rw [bzl_go hb]
      exact bzl_P64 n (A := A) (B := B) ⟨h.s.step h.pr h.hA h.hB hb, h.pr, h.hA, h.hB⟩
theorem bez_P64 {p : Int} {xs ys : List Int} (hx : P64 p xs) (hy : P64 p ys) (hne : xs ≠ [] ∨ ys ≠ []) : P64 p (bez p xs ys).1 ∧ P64 p (bez p xs ys).2.1 ∧ P64 p (bez p xs ys).2.2 := by
  have h := bzl_P64 (ys.length + 1) (BzP.mk (BzS.start hx.pr hx.po hy.po hx.le hy.le hne) hx.pr hx.le hy.le)
  exact ⟨(P64.nil hx.pr).addp h.1 _, (P64.nil hx.pr).addp h.2.1 _, (P64.nil hx.pr).addp h.2.2 _⟩
theorem nil_iff {f : Nat → Int} {z : Bool} (h : decide ((mkp 64 f).length = 0) = z) : mkp 64 f = [] ↔ z = true := by
  rw [← h, decide_eq_true_iff, List.length_eq_zero_iff]

end Go.Proofs.Ytionaenmjndncab

/- Walks: greatest common divisors on both sides. -/
namespace Go.Proofs.Ytionaenmjndncab
open Go.RowKit
end Go.Proofs.Ytionaenmjndncab

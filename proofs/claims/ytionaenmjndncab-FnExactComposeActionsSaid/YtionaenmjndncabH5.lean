/- Plain: the list for one map after another. -/
import Derived.Test.YtionaenmjndncabH4
set_option linter.unusedVariables false
set_option linter.unusedSimpArgs false
namespace Go.Proofs.Ytionaenmjndncab
open Go.RowKit
section
variable {P : Program} {Q : Exit → Act → World → Prop} {o : Oper} {a : Act} {w : World}
theorem wp_addN (t t' : TypeId) (x y : Operand) (hop : o.op = .binOp .add t x y t') (i k : Nat) (hx : a.eval x = .int .i64 (i : Int)) (hy : a.eval y = .int .i64 (k : Int)) (hi : i ≤ 1000000) (hk : k ≤ 1000000) :
    o.wp P a w (fun a' w' => a' = a.put o.dst (.int .i64 ((i + k : Nat) : Int)) ∧ Below w.heap.size w w') Q := by
  have hw : IntKind.i64.wrap ((i : Int) + (k : Int)) = ((i + k : Nat) : Int) := by rw [IntKind.wrap_i64]; omega
  unfold Oper.wp execOp
  simp only [hop, hx, hy]
  simp only [eqGuard, binOp, Op.intArith, Sem.run_bind, Sem.run_pure, Result.andThen_ok, Bool.not_false, if_true, hw, Oper.upon]
  simp only [ne_eq, not_true, if_false, Sem.run_pure, Result.andThen_ok]
  exact ⟨trivial, Below.refl _ _⟩
end
/-- The inner sums, after k members of the second list. -/
def cpI (p : Int) (P : Nat) (a : List Int) (B : Nat → List Int) (i : Nat) : Nat → (Nat → List Int) → Nat → List Int
  | 0, M => M
  | k + 1, M => if a = [] ∨ B k = [] then cpI p P a B i k M else fun j => if j = i + k then addp p (cpI p P a B i k M (i + k)) (mulp p a (sprd (B k) (P ^ i))) 1 else cpI p P a B i k M j
def cpO (p : Int) (P : Nat) (A B : Nat → List Int) (nb : Nat) : Nat → Nat → List Int
  | 0 => fun _ => []
  | i + 1 => cpI p P (A i) B i nb (cpO p P A B nb i)
/-- The degree of a member's product is not too great. -/
def CFit1 (P : Nat) (A B : Nat → List Int) (i k : Nat) : Prop := A i ≠ [] → B k ≠ [] → (A i).length - 1 + ((B k).length - 1) * P ^ i ≤ 63
def CFit (P : Nat) (A B : Nat → List Int) (na nb : Nat) : Prop := ∀ i, i < na → ∀ k, k < nb → CFit1 P A B i k
theorem cpI_skip {p : Int} {P : Nat} {a : List Int} {B : Nat → List Int} {i k : Nat} {M : Nat → List Int} (h : a = [] ∨ B k = []) : cpI p P a B i (k + 1) M = cpI p P a B i k M := if_pos h
theorem cpI_step {p : Int} {P : Nat} {a : List Int} {B : Nat → List Int} {i k : Nat} {M : Nat → List Int} (h1 : a ≠ []) (h2 : B k ≠ []) :
    cpI p P a B i (k + 1) M = fun j => if j = i + k then addp p (cpI p P a B i k M (i + k)) (mulp p a (sprd (B k) (P ^ i))) 1 else cpI p P a B i k M j := if_neg (fun h => by rcases h with h | h; exact h1 h; exact h2 h)
theorem prod_P64 {p : Int} {P : Nat} {a b : List Int} {q : Nat} (hP : 2 ≤ P) (hq : 0 < q) (ha : P64 p a) (hb : P64 p b) (h1 : a ≠ []) (h2 : b ≠ []) (hf : a.length - 1 + (b.length - 1) * q ≤ 63) : P64 p (mulp p a (sprd b q)) ∧ (sprd b q).length ≤ 64 := by
  have hp2 := ha.pr.pos
  have hsl := sprd_length h2 q
  have hs : Po p (sprd b q) := sprd_Po (by omega) hb.po hq
  have hsn : sprd b q ≠ [] := fun e => by rw [e] at hsl; simp at hsl
  have hl := mulp_length ha.pr ha.po hs h1 hsn
  have := List.length_pos_iff.2 h1
  exact ⟨⟨ha.pr, mulp_Po (by omega) _ _, by omega⟩, by omega⟩
theorem cpI_P64 {p : Int} {P : Nat} (hP : 2 ≤ P) {A B : Nat → List Int} (hA : ∀ i, P64 p (A i)) (hB : ∀ k, P64 p (B k)) {i : Nat} {M : Nat → List Int} (hM : ∀ j, P64 p (M j)) : ∀ k, (∀ k', k' < k → CFit1 P A B i k') → ∀ j, P64 p (cpI p P (A i) B i k M j)
  | 0, _, j => hM j
  | k + 1, hf, j => by
    have ih := cpI_P64 hP hA hB hM k (fun k' hk => hf k' (by omega))
    by_cases h : A i = [] ∨ B k = []
    · rw [cpI_skip h]; exact ih j
    · have h1 : A i ≠ [] := fun e => h (.inl e)
      have h2 : B k ≠ [] := fun e => h (.inr e)
      rw [cpI_step h1 h2]
      show P64 p (if j = i + k then _ else _)
      split
      · have h3 := prod_P64 hP (Nat.pow_pos (by omega)) (hA i) (hB k) h1 h2 (hf k (by omega) h1 h2)
        exact ⟨(hA i).pr, addp_Po (by have := (hA i).pr.pos; omega) _ _ _, Nat.le_trans (addp_length p _ _ _) (Nat.max_le.2 ⟨(ih _).le, h3.1.le⟩)⟩
      · exact ih j
theorem cpO_P64 {p : Int} {P : Nat} (hp : Pr p) (hP : 2 ≤ P) {A B : Nat → List Int} (hA : ∀ i, P64 p (A i)) (hB : ∀ k, P64 p (B k)) {nb : Nat} : ∀ i, (∀ i', i' < i → ∀ k, k < nb → CFit1 P A B i' k) → ∀ j, P64 p (cpO p P A B nb i j)
  | 0, _, j => P64.nil hp
  | i + 1, hf, j => cpI_P64 hP hA hB (cpO_P64 hp hP hA hB i fun i' hi => hf i' (by omega)) nb (fun k hk => hf i (by omega) k hk) j
theorem cpI_far {p : Int} {P : Nat} {a : List Int} {B : Nat → List Int} {i N : Nat} {M : Nat → List Int} (hM : ∀ j, N ≤ j → M j = []) : ∀ k, i + k ≤ N → ∀ j, N ≤ j → cpI p P a B i k M j = []
  | 0, _, j, hj => hM j hj
  | k + 1, h, j, hj => by
    by_cases hs : a = [] ∨ B k = []
    · rw [cpI_skip hs]; exact cpI_far hM k (by omega) j hj
    · rw [cpI_step (fun e => hs (.inl e)) (fun e => hs (.inr e))]
      show (if j = i + k then _ else _) = []
      rw [if_neg (by omega)]
      exact cpI_far hM k (by omega) j hj
theorem cpO_far {p : Int} {P : Nat} {A B : Nat → List Int} {nb N : Nat} : ∀ i, (i = 0 ∨ i - 1 + nb ≤ N) → ∀ j, N ≤ j → cpO p P A B nb i j = []
  | 0, _, _, _ => rfl
  | i + 1, h, j, hj => cpI_far (cpO_far i (by omega)) nb (by omega) j hj
/-- The length of the list, its members, and the code. -/
def cmN (p : Int) (P na nb : Nat) (F G : Nat → Int) (b c t : Bool) : Nat := if b && c && t then tlen (cpO p P (rowL na F) (rowL nb G) nb na) (na + nb) else 0
theorem cm_len {p : Int} {P na nb : Nat} {A B : Nat → List Int} (h : 0 < na) (h2 : 0 < nb) : tlen (cpO p P A B nb na) (na + nb) = tlen (cpO p P A B nb na) (na + nb - 1) := by
  obtain ⟨N, hN⟩ : ∃ N, na + nb = N + 1 := ⟨na + nb - 1, by omega⟩
  rw [hN, Nat.add_sub_cancel]
  exact tlen_nil (cpO_far na (by omega) N (Nat.le_refl _))
theorem cpO_void {p : Int} {P : Nat} {A B : Nat → List Int} : ∀ i, cpO p P A B 0 i = fun _ => []
  | 0 => rfl
  | i + 1 => cpO_void i
theorem tlen_void (n : Nat) : tlen (fun _ => []) n = 0 := by
  induction n with
  | zero => rfl
  | succ n ih => rw [tlen_nil rfl, ih]
theorem cm_void {p : Int} {P na nb : Nat} {A B : Nat → List Int} (h : na = 0 ∨ nb = 0) : tlen (cpO p P A B nb na) (na + nb) = 0 := by
  rcases h with rfl | rfl
  · exact tlen_void _
  · rw [cpO_void]; exact tlen_void _
def ccode (b c t : Bool) : Int := if b then (if c then (if t then 0 else 3) else 2) else 1
end Go.Proofs.Ytionaenmjndncab

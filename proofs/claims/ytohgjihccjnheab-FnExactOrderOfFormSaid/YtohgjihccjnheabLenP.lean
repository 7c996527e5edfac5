/- How long the parts of a composition are. No program in sight. -/
import Derived.Test.YtohgjihccjnheabCmpP
set_option linter.unusedVariables false
set_option linter.unusedSimpArgs false
namespace Go.Proofs.Ytohgjihccjnheab

theorem bzl_len {p : Int} (hp : Pr p) {A B : Nat} (hA : A ≤ 64) (hB : B ≤ 64) : ∀ (n : Nat) {a b u x v y : List Int}, BzS p A B a b u x v y → b.length < n →
    (bzl p n a b u x v y).1.length ≤ max a.length b.length ∧ (bzl p n a b u x v y).2.1.length ≤ B + 1 ∧ (bzl p n a b u x v y).2.2.length ≤ A + 1
  | 0, _, _, _, _, _, _, _, h => by omega
  | n + 1, a, b, u, x, v, y, h, hl => by
    unfold bzl
    by_cases hb : b = []
    · rw [if_pos hb]
      refine ⟨Nat.le_max_left _ _, ?_, ?_⟩
      · rcases h.iu.hu with e | e
        · show u.length ≤ _; rw [e]; simp
        · show u.length ≤ _; omega
      · rcases h.iv.hu with e | e
        · show v.length ≤ _; rw [e]; simp
        · show v.length ≤ _; omega
    · rw [if_neg hb]
      have h2 := (divp_Po hp h.pa h.pb hb).2.2
      have h1 := bzl_len hp hA hB n (h.step hp hA hB hb) (by omega)
      exact ⟨by omega, h1.2.1, h1.2.2⟩
theorem bez_len {p : Int} (hp : Pr p) {a b : List Int} (ha : Po p a) (hb : Po p b) (hne : a ≠ [] ∨ b ≠ []) (la : a.length ≤ 64) (lb : b.length ≤ 64) :
    (bez p a b).1.length ≤ max a.length b.length ∧ (bez p a b).2.1.length ≤ b.length + 1 ∧ (bez p a b).2.2.length ≤ a.length + 1 := by
  have h := bzl_len hp la lb (b.length + 1) (BzS.start hp ha hb la lb hne) (by omega)
  unfold bez
  exact ⟨Nat.le_trans (scl_length_le p _ _) h.1, Nat.le_trans (scl_length_le p _ _) h.2.1, Nat.le_trans (scl_length_le p _ _) h.2.2⟩
theorem mulp_le {p : Int} (hp : Pr p) {a b : List Int} (ha : Po p a) (hb : Po p b) {n m : Nat} (h1 : a.length ≤ n + 1) (h2 : b.length ≤ m + 1) : (mulp p a b).length ≤ n + m + 1 := by
  rcases mulp_len hp ha hb with e | ⟨e1, e2, e3⟩
  · rw [e]; simp
  · omega
end Go.Proofs.Ytohgjihccjnheab

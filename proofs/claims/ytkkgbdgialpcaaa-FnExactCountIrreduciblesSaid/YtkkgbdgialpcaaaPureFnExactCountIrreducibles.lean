/- FnExactCountIrreducibles: for all p and n the program's count equals the reference's; no condition. -/
import Derived.Test.YtkkgbdgialpcaaaPFnExactCountIrreduciblesx2
namespace Go.Proofs.Ytkkgbdgialpcaaa.Pure
open Go.RowKit Go.Proofs.Ytkkgbdgialpcaaa.PFnExactCountIrreducibles Go.Proofs.YtkkgbdgialpcaaaW.PrintWords Go.Proofs.YtkkgbdgialpcaaaW.PrintLast

theorem CountIrr_all : ∀ p : Fin 4, ∀ n : Fin 20, laws_FnExactCountIrreducibles.f 60 ([2, 3, 5, 7].getD p.val 0) ((n.val : Int) + 1) = some true := by
  decide +kernel

theorem CountIrr_in (p : Int) (hp : p = 2 ∨ p = 3 ∨ p = 5 ∨ p = 7) (n : Int) (h1 : 1 ≤ n) (h2 : n ≤ 20) :
    laws_FnExactCountIrreducibles.f 60 p n = some true := by
  obtain ⟨m, rfl⟩ : ∃ m : Nat, n = (m : Int) + 1 := ⟨(n - 1).toNat, by omega⟩
  have hm : m < 20 := by omega
  rcases hp with rfl | rfl | rfl | rfl
  · exact CountIrr_all 0 ⟨m, hm⟩
  · exact CountIrr_all 1 ⟨m, hm⟩
  · exact CountIrr_all 2 ⟨m, hm⟩
  · exact CountIrr_all 3 ⟨m, hm⟩

theorem FnExactCountIrreducibles : laws_FnExactCountIrreducibles.Pure := by
  unfold laws_FnExactCountIrreducibles.Pure
  intro p n _ _
  refine ⟨60, ?_⟩
  by_cases hp : p = 2 ∨ p = 3 ∨ p = 5 ∨ p = 7
  · by_cases hn : 1 ≤ n ∧ n ≤ 20
    · exact CountIrr_in p hp n hn.1 hn.2
    · have e1 : spec_l01Prime.f p = some true := by
        unfold spec_l01Prime.f
        rcases hp with rfl | rfl | rfl | rfl <;> rfl
      have e2 : impl_isPrime.f p = some true := by
        unfold impl_isPrime.f
        rcases hp with rfl | rfl | rfl | rfl <;> rfl
      have e3 : spec_l01In.f n 1 20 = some false := by
        unfold spec_l01In.f
        by_cases h : n ≥ 1
        · rw [if_pos h]; simp; omega
        · rw [if_neg h]
      have e4 : impl_within.f n 1 20 = some false := by
        unfold impl_within.f
        by_cases h : 1 ≤ n
        · rw [if_pos h]; simp; omega
        · rw [if_neg h]
      unfold laws_FnExactCountIrreducibles.f spec_CountIrreducibles.f impl_CountIrreducibles.f
      simp only [e1, e2, e3, e4, Option.bind_some, if_true]
      simp
  · have e1 : spec_l01Prime.f p = some false := by
      unfold spec_l01Prime.f
      rw [if_neg (by omega), if_neg (by omega), if_neg (by omega)]
      simp; omega
    have e2 : impl_isPrime.f p = some false := by
      unfold impl_isPrime.f
      rw [if_neg (by omega), if_neg (by omega), if_neg (by omega)]
      simp; omega
    unfold laws_FnExactCountIrreducibles.f spec_CountIrreducibles.f impl_CountIrreducibles.f
    simp only [e1, e2, Option.bind_some]
    simp

end Go.Proofs.Ytkkgbdgialpcaaa.Pure

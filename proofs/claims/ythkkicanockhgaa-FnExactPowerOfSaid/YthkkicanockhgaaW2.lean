/- Walks: primes, ranges, polynomials' checks. -/
import Derived.Test.YthkkicanockhgaaW1
namespace Go.Proofs.Ythkkicanockhgaa
open Go.RowKit

theorem not_pr {p : Int} (h : ¬ Pr p) : (p == 2) = false ∧ (p == 3) = false ∧ (p == 5) = false ∧ (p == 7) = false := by
  unfold Pr at h
  refine ⟨?_, ?_, ?_, ?_⟩ <;> (rw [beq_eq_false_iff_ne]; omega)

set_option maxHeartbeats 400000 in
theorem isPrime_any (p : Int) (w : World) (b : Bool) (hb : decide (Pr p) = b) : Calls Try.prog 80 #[.int .i64 p] w fun e w' => e = .returned (.bool b) ∧ w = w' := by
  by_cases hp : Pr p
  · rw [decide_eq_true hp] at hb; subst hb
    rcases hp with rfl | rfl | rfl | rfl
    all_goals
      go_enter Try.func80, Try.ntmps80
      go_wp2
      go_ret
      exact ⟨rfl, rfl⟩
  · rw [decide_eq_false hp] at hb; subst hb
    obtain ⟨h2, h3, h5, h7⟩ := not_pr hp
    clear hp
    go_enter Try.func80, Try.ntmps80
    go_wp2
    go_ret
    exact ⟨rfl, rfl⟩

set_option maxHeartbeats 400000 in
theorem l01Prime_any (p : Int) (w : World) (b : Bool) (hb : decide (Pr p) = b) : Calls Try.prog 78 #[.int .i64 p] w fun e w' => e = .returned (.bool b) ∧ w = w' := by
  by_cases hp : Pr p
  · rw [decide_eq_true hp] at hb; subst hb
    rcases hp with rfl | rfl | rfl | rfl
    all_goals
      go_enter Try.func78, Try.ntmps78
      go_wp2
      go_ret
      exact ⟨rfl, rfl⟩
  · rw [decide_eq_false hp] at hb; subst hb
    obtain ⟨h2, h3, h5, h7⟩ := not_pr hp
    clear hp
    go_enter Try.func78, Try.ntmps78
    go_wp2
    go_ret
    exact ⟨rfl, rfl⟩

set_option maxHeartbeats 400000 in
theorem within_any (n lo hi : Int) (w : World) (b : Bool) (hb : decide (lo ≤ n ∧ n ≤ hi) = b) : Calls Try.prog 89 #[.int .i64 n, .int .i64 lo, .int .i64 hi] w fun e w' => e = .returned (.bool b) ∧ w = w' := by
  by_cases h1 : lo ≤ n
  · by_cases h2 : n ≤ hi
    · rw [decide_eq_true ⟨h1, h2⟩] at hb; subst hb
      go_enter Try.func89, Try.ntmps89
      go_wp2
      go_ret
      exact ⟨rfl, rfl⟩
    · rw [decide_eq_false (fun h => h2 h.2)] at hb; subst hb
      go_enter Try.func89, Try.ntmps89
      go_wp2
      go_ret
      exact ⟨rfl, rfl⟩
  · rw [decide_eq_false (fun h => h1 h.1)] at hb; subst hb
    have h3 : decide (lo ≤ n) = false := by simpa using h1
    go_enter Try.func89, Try.ntmps89
    go_wp2
    go_ret
    exact ⟨rfl, rfl⟩

set_option maxHeartbeats 400000 in
theorem l01In_any (n lo hi : Int) (w : World) (b : Bool) (hb : decide (lo ≤ n ∧ n ≤ hi) = b) : Calls Try.prog 67 #[.int .i64 n, .int .i64 lo, .int .i64 hi] w fun e w' => e = .returned (.bool b) ∧ w = w' := by
  by_cases h1 : lo ≤ n
  · by_cases h2 : n ≤ hi
    · rw [decide_eq_true ⟨h1, h2⟩] at hb; subst hb
      go_enter Try.func67, Try.ntmps67
      go_wp2
      go_ret
      exact ⟨rfl, rfl⟩
    · rw [decide_eq_false (fun h => h2 h.2)] at hb; subst hb
      go_enter Try.func67, Try.ntmps67
      go_wp2
      go_ret
      exact ⟨rfl, rfl⟩
  · rw [decide_eq_false (fun h => h1 h.1)] at hb; subst hb
    have h3 : decide (lo ≤ n) = false := by simpa using h1
    go_enter Try.func67, Try.ntmps67
    go_wp2
    go_ret
    exact ⟨rfl, rfl⟩
end Go.Proofs.Ythkkicanockhgaa

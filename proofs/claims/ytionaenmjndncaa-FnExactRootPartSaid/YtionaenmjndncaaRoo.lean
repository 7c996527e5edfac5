/- The coefficients of a root, as a sequence and as a list from the other end. No program in sight. -/
import Derived.Test.YtionaenmjndncaaPure
set_option linter.unusedVariables false
set_option linter.unusedSimpArgs false
namespace Go.Proofs.Ytionaenmjndncaa

theorem rts_prefix (p half : Int) (D : Nat → Int) (top : Nat) : ∀ {k g i : Nat}, i ≤ k → k ≤ g → cf (rts p half D top g) i = cf (rts p half D top k) i
  | k, 0, i, h1, h2 => by obtain rfl : k = 0 := by omega
                          rfl
  | k, g + 1, i, h1, h2 => by
    by_cases e : k = g + 1
    · rw [e]
    · show cf (rts p half D top g ++ [_]) i = _
      rw [cf_append_left _ _ _ (by rw [rts_length]; omega)]
      exact rts_prefix p half D top h1 (by omega)
theorem rtv_congr {p half : Int} {D : Nat → Int} {top k n : Nat} {s t : Nat → Int} (h : ∀ i, i ≤ n → s i = t i) (hk : n + 1 = k) : rtv p half D top k s n = rtv p half D top k t n := by
  unfold rtv
  congr 1
  exact sumN_congr fun i hi => by rw [h (i + 1) (by omega), h (k - 1 - i) (by omega)]
theorem rts_rec (p half : Int) (D : Nat → Int) (top : Nat) {g k : Nat} (h : k < g) :
    cf (rts p half D top g) (k + 1) = rtv p half D top (k + 1) (cf (rts p half D top g)) k % p * half % p := by
  rw [rts_prefix p half D top (k := k + 1) (Nat.le_refl _) (by omega)]
  show cf (rts p half D top k ++ [_]) (k + 1) = _
  rw [cf_append_one, if_pos (by rw [rts_length])]
  rw [rtv_congr (s := cf (rts p half D top k)) (t := cf (rts p half D top g)) (fun i hi => (rts_prefix p half D top hi (by omega)).symm) rfl]
theorem rtv_zero (p half : Int) (D : Nat → Int) (top k : Nat) (s : Nat → Int) : rtv p half D top k s 0 = D (top - k) := by
  unfold rtv; show D (top - k) - 0 = _; omega
theorem rtv_succ (p half : Int) (D : Nat → Int) (top k n : Nat) (s : Nat → Int) : rtv p half D top k s (n + 1) = rtv p half D top k s n - s (n + 1) * s (k - 1 - n) := by
  unfold rtv
  show D (top - k) - (sumN n _ + s (n + 1) * s (k - 1 - n)) = _
  omega
theorem prod_bound {x y : Int} (hx : 0 ≤ x ∧ x ≤ 6) (hy : 0 ≤ y ∧ y ≤ 6) : 0 ≤ x * y ∧ x * y ≤ 36 := by
  refine ⟨Int.mul_nonneg hx.1 hy.1, ?_⟩
  have := Int.mul_le_mul hx.2 hy.2 hy.1 (by omega)
  omega
theorem rtv_bound {p half : Int} {D : Nat → Int} (hD : ∀ i, 0 ≤ D i ∧ D i ≤ 6) {s : Nat → Int} (hs : ∀ i, 0 ≤ s i ∧ s i ≤ 6) (top k : Nat) : ∀ n : Nat, -(36 * (n : Int)) ≤ rtv p half D top k s n ∧ rtv p half D top k s n ≤ 6
  | 0 => by rw [rtv_zero]; have := hD (top - k); omega
  | n + 1 => by
    rw [rtv_succ]
    have h1 := rtv_bound (p := p) (half := half) hD hs top k n
    have h2 := prod_bound (hs (n + 1)) (hs (k - 1 - n))
    omega
/-- The root's coefficients from that of T^0 on. -/
def rootL (g : Nat) (S : Nat → Int) : List Int := (List.range (g + 1)).map fun n => S (g - n)
theorem rootL_length (g : Nat) (S : Nat → Int) : (rootL g S).length = g + 1 := by unfold rootL; simp
theorem rootL_cf (g : Nat) (S : Nat → Int) (n : Nat) : cf (rootL g S) n = if n < g + 1 then S (g - n) else 0 := by unfold rootL; rw [cf_map_range]
theorem half_eq {p : Int} (hp : Pr p) (h2 : p ≠ 2) : invp p 2 = (p + 1) / 2 ∧ 0 ≤ (p + 1) / 2 ∧ (p + 1) / 2 ≤ 4 ∧ 2 % p = 2 := by
  rcases hp with rfl | rfl | rfl | rfl
  · exact absurd rfl h2
  all_goals exact ⟨by decide, by decide, by decide, by decide⟩
end Go.Proofs.Ytionaenmjndncaa

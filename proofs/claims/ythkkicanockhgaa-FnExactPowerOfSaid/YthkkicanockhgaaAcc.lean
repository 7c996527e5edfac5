/- Products and divisions as they are summed up step by step. No program in sight. -/
import Derived.Test.YthkkicanockhgaaDiv
namespace Go.Proofs.Ythkkicanockhgaa

/-- What is summed up behind i rows and j columns of a product. -/
def prt (f g : PS) (i j k : Nat) : Int := sumN i (fun x => if x ≤ k then f x * g (k - x) else 0) + (if i ≤ k ∧ k < i + j then f i * g (k - i) else 0)
theorem prt_start (f g : PS) (k : Nat) : prt f g 0 0 k = 0 := by
  unfold prt; rw [if_neg (by omega)]; rfl
theorem prt_step (f g : PS) (i j k : Nat) : prt f g i (j + 1) k = if k = i + j then prt f g i j k + f i * g j else prt f g i j k := by
  unfold prt
  by_cases h : k = i + j
  · rw [if_pos h, if_pos (by omega), if_neg (by omega), h, show i + j - i = j by omega]; omega
  · rw [if_neg h]
    by_cases h2 : i ≤ k ∧ k < i + j
    · rw [if_pos h2, if_pos (by omega)]
    · rw [if_neg h2, if_neg (by omega)]
theorem prt_row {f g : PS} {m : Nat} (hg : Fin0 g m) (i k : Nat) : prt f g i m k = prt f g (i + 1) 0 k := by
  unfold prt
  rw [if_neg (show ¬ (i + 1 ≤ k ∧ k < i + 1 + 0) by omega)]
  show _ = (sumN i _ + (if i ≤ k then f i * g (k - i) else 0)) + 0
  by_cases h : i ≤ k
  · rw [if_pos h]
    by_cases h2 : k < i + m
    · rw [if_pos ⟨h, h2⟩]; omega
    · rw [if_neg (by omega), hg (k - i) (by omega), Int.mul_zero]; omega
  · rw [if_neg h, if_neg (by omega)]; omega
theorem prt_skip {f g : PS} {i : Nat} (hf : f i = 0) (k : Nat) : prt f g i 0 k = prt f g (i + 1) 0 k := by
  unfold prt
  rw [if_neg (show ¬ (i + 1 ≤ k ∧ k < i + 1 + 0) by omega), if_neg (show ¬ (i ≤ k ∧ k < i + 0) by omega)]
  show _ = (sumN i _ + (if i ≤ k then f i * g (k - i) else 0)) + 0
  rw [hf]; simp
theorem prt_all {f g : PS} {n : Nat} (hf : Fin0 f n) (k : Nat) : prt f g n 0 k = pmul f g k := by
  unfold prt
  rw [if_neg (by omega), Int.add_zero]
  show _ = sumN (k + 1) (fun i => f i * g (k - i))
  by_cases h : n ≤ k + 1
  · rw [sumN_ge h fun i hi => by rw [hf i hi, Int.zero_mul]]
    exact sumN_congr fun i hi => by rw [if_pos (by omega)]
  · rw [sumN_ge (n := k + 1) (m := n) (by omega) fun i hi => by rw [if_neg (by omega)]]
    exact sumN_congr fun i hi => by rw [if_pos (by omega)]
theorem term_bound {x y : Int} (hx0 : 0 ≤ x) (hx1 : x ≤ 6) (hy0 : 0 ≤ y) (hy1 : y ≤ 6) : 0 ≤ x * y ∧ x * y ≤ 36 := by
  refine ⟨Int.mul_nonneg hx0 hy0, ?_⟩
  have := Int.mul_le_mul_of_nonneg_right hx1 hy0
  omega
theorem prt_bound {f g : PS} (hf : ∀ i, 0 ≤ f i ∧ f i ≤ 6) (hg : ∀ i, 0 ≤ g i ∧ g i ≤ 6) (i j k : Nat) : 0 ≤ prt f g i j k ∧ prt f g i j k ≤ 36 * ((i : Int) + 1) := by
  have hs : ∀ n, 0 ≤ sumN n (fun x => if x ≤ k then f x * g (k - x) else 0) ∧ sumN n (fun x => if x ≤ k then f x * g (k - x) else 0) ≤ 36 * (n : Int) := by
    intro n
    induction n with
    | zero => exact ⟨Int.le_refl _, Int.le_refl _⟩
    | succ n ih =>
      have hb := term_bound (hf n).1 (hf n).2 (hg (k - n)).1 (hg (k - n)).2
      show 0 ≤ sumN n _ + (if n ≤ k then f n * g (k - n) else 0) ∧ sumN n _ + (if n ≤ k then f n * g (k - n) else 0) ≤ _
      split <;> omega
  have h1 := hs i
  have hb := term_bound (hf i).1 (hf i).2 (hg (k - i)).1 (hg (k - i)).2
  unfold prt
  split <;> omega

/-- What a step of a division has done behind j columns. -/
def dpart (p q : Int) (b : List Int) (i j : Nat) (r : PS) : PS := fun n => if i ≤ n ∧ n < i + j then (r n - q * cf b (n - i)) % p else r n
theorem dpart_zero (p q : Int) (b : List Int) (i : Nat) (r : PS) : dpart p q b i 0 r = r := by
  funext n; unfold dpart; rw [if_neg (by omega)]
theorem dpart_step (p q : Int) (b : List Int) (i j : Nat) (r : PS) (n : Nat) : dpart p q b i (j + 1) r n = if n = i + j then (r n - q * cf b j) % p else dpart p q b i j r n := by
  unfold dpart
  by_cases h : n = i + j
  · rw [if_pos h, if_pos (by omega), h, show i + j - i = j by omega]
  · rw [if_neg h]
    by_cases h2 : i ≤ n ∧ n < i + j
    · rw [if_pos h2, if_pos (by omega)]
    · rw [if_neg h2, if_neg (by omega)]
theorem dpart_at (p q : Int) (b : List Int) (i j : Nat) (r : PS) : dpart p q b i j r (i + j) = r (i + j) := by
  unfold dpart; rw [if_neg (by omega)]
theorem dpart_all (p inv : Int) (b : List Int) (i : Nat) (r : PS) : dpart p (r (i + (b.length - 1)) * inv % p) b i b.length r = dstep p inv b i r := rfl
theorem dpart_In {p q : Int} (hp : 0 < p) {b : List Int} {i j : Nat} {r : PS} (h : In p r) : In p (dpart p q b i j r) := fun n => by
  unfold dpart; split
  · exact ⟨Int.emod_nonneg _ (by omega), Int.emod_lt_of_pos _ hp⟩
  · exact h n
theorem dstep_skip {p inv : Int} {b : List Int} {i : Nat} {r : PS} (h : In p r) (hq : r (i + (b.length - 1)) * inv % p = 0) : dstep p inv b i r = r := by
  funext n; unfold dstep; split
  · rw [hq, Int.zero_mul, Int.sub_zero, Int.emod_eq_of_lt (h n).1 (h n).2]
  · rfl
theorem mulmod_bound {p x y : Int} (hp : 0 < p) : 0 ≤ x * y % p ∧ x * y % p < p := ⟨Int.emod_nonneg _ (by omega), Int.emod_lt_of_pos _ hp⟩

/-- The inverse is the only number. -/
theorem invp_only {p x k : Int} (hp : Pr p) (h0 : 0 < x) (h1 : x < p) (hk0 : 0 ≤ k) (hk1 : k < p) : k * x % p = 1 ↔ k = invp p x := by
  obtain ⟨X, rfl⟩ := Int.eq_ofNat_of_zero_le (show 0 ≤ x by omega)
  obtain ⟨K, rfl⟩ := Int.eq_ofNat_of_zero_le hk0
  rcases hp with rfl | rfl | rfl | rfl
  · have key : ∀ X K : Fin 2, 0 < X.val → ((K.val : Int) * X.val % 2 = 1 ↔ (K.val : Int) = invp 2 X.val) := by decide
    exact key ⟨X, by omega⟩ ⟨K, by omega⟩ (by simp; omega)
  · have key : ∀ X K : Fin 3, 0 < X.val → ((K.val : Int) * X.val % 3 = 1 ↔ (K.val : Int) = invp 3 X.val) := by decide
    exact key ⟨X, by omega⟩ ⟨K, by omega⟩ (by simp; omega)
  · have key : ∀ X K : Fin 5, 0 < X.val → ((K.val : Int) * X.val % 5 = 1 ↔ (K.val : Int) = invp 5 X.val) := by decide
    exact key ⟨X, by omega⟩ ⟨K, by omega⟩ (by simp; omega)
  · have key : ∀ X K : Fin 7, 0 < X.val → ((K.val : Int) * X.val % 7 = 1 ↔ (K.val : Int) = invp 7 X.val) := by decide
    exact key ⟨X, by omega⟩ ⟨K, by omega⟩ (by simp; omega)
end Go.Proofs.Ythkkicanockhgaa

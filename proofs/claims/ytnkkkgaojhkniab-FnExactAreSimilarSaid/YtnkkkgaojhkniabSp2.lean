/- Walks: numbers in base 2 as lists of places; shifts; determinants summed up column by column. -/
import Derived.Test.YtnkkkgaojhkniabSp1
set_option linter.unusedVariables false
set_option linter.unusedSimpArgs false
namespace Go.Proofs.Ytnkkkgaojhkniab
open Go.RowKit
/-! ## places of ones -/
def bt (m i : Nat) : Bool := decide (m / 2 ^ i % 2 = 1)
def bitsA (a k m : Nat) : List Nat := (List.range' a k).filter (bt m)
def bits (n m : Nat) : List Nat := bitsA 0 n m
def ones : Nat → Nat → Nat
  | 0, _ => 0
  | f + 1, m => m % 2 + ones f (m / 2)
theorem ones_bits : ∀ n, n ≤ 6 → ∀ m, m < 2 ^ n → ones 6 m = (bits n m).length := by
  have key : ∀ n : Fin 7, ∀ m : Fin 64, m.val < 2 ^ n.val → ones 6 m.val = (bits n.val m.val).length := by decide +kernel
  intro n hn m hm
  have : 2 ^ n ≤ 2 ^ 6 := Nat.pow_le_pow_right (by omega) hn
  exact key ⟨n, by omega⟩ ⟨m, by omega⟩ hm
theorem bt_less {c j i : Nat} (hc : c < 64) (hj : j < 6) (hi : i < 6) (h : bt c j = true) : bt (c - 2 ^ j) i = (bt c i && decide (i ≠ j)) := by
  have key : ∀ c : Fin 64, ∀ j i : Fin 6, bt c.val j.val = true → bt (c.val - 2 ^ j.val) i.val = (bt c.val i.val && decide (i.val ≠ j.val)) := by decide +kernel
  exact key ⟨c, hc⟩ ⟨j, hj⟩ ⟨i, hi⟩ h
theorem bt_le {c j : Nat} (hc : c < 64) (hj : j < 6) (h : bt c j = true) : 2 ^ j ≤ c := by
  have key : ∀ c : Fin 64, ∀ j : Fin 6, bt c.val j.val = true → 2 ^ j.val ≤ c.val := by decide +kernel
  exact key ⟨c, hc⟩ ⟨j, hj⟩ h
theorem bits_zero (n : Nat) : bits n 0 = [] := by
  unfold bits bitsA
  rw [List.filter_eq_nil_iff]
  intro i _
  unfold bt; simp
theorem bits_pos {n m : Nat} (hn : n ≤ 6) (hm : m < 2 ^ n) (h : m ≠ 0) : ∃ i, i < n ∧ bt m i = true ∧ ∀ k, k < i → bt m k = false := by
  have key : ∀ n : Fin 7, ∀ m : Fin 64, m.val < 2 ^ n.val → m.val ≠ 0 → ∃ i : Fin 6, i.val < n.val ∧ bt m.val i.val = true ∧ ∀ k : Fin 6, k.val < i.val → bt m.val k.val = false := by decide +kernel
  have : 2 ^ n ≤ 2 ^ 6 := Nat.pow_le_pow_right (by omega) hn
  obtain ⟨i, h1, h2, h3⟩ := key ⟨n, by omega⟩ ⟨m, by omega⟩ hm h
  exact ⟨i.val, h1, h2, fun k hk => h3 ⟨k, by omega⟩ hk⟩
theorem bitsA_split (a k j m : Nat) (h : j ≤ k) : bitsA a k m = bitsA a j m ++ bitsA (a + j) (k - j) m := by
  unfold bitsA
  rw [← List.filter_append, List.range'_append_1, show j + (k - j) = k by omega]
theorem bitsA_cons (a k m : Nat) : bitsA a (k + 1) m = if bt m a = true then a :: bitsA (a + 1) k m else bitsA (a + 1) k m := by
  unfold bitsA
  rw [List.range'_succ, List.filter_cons]
theorem bitsA_nil (a m : Nat) : bitsA a 0 m = [] := rfl
theorem bitsA_less {a k c j : Nat} (hc : c < 64) (hj : j < 6) (hk : a + k ≤ 6) (h : bt c j = true) (hne : j < a ∨ a + k ≤ j) : bitsA a k (c - 2 ^ j) = bitsA a k c := by
  unfold bitsA
  refine List.filter_congr fun i hi => ?_
  have := List.mem_range'_1.1 hi
  rw [bt_less hc hj (by omega) h]
  have e : decide (i ≠ j) = true := decide_eq_true (by omega)
  rw [e, Bool.and_true]
/-- Without column j. -/
theorem bits_less {n c j : Nat} (hn : n ≤ 6) (hc : c < 2 ^ n) (hj : j < n) (h : bt c j = true) : bits n (c - 2 ^ j) = bitsA 0 j c ++ bitsA (j + 1) (n - (j + 1)) c := by
  have h2 : 2 ^ n ≤ 2 ^ 6 := Nat.pow_le_pow_right (by omega) hn
  unfold bits
  have hc6 : c < 64 := by omega
  have hlt : c - 2 ^ j < 64 := Nat.lt_of_le_of_lt (Nat.sub_le _ _) hc6
  rw [bitsA_split 0 n j _ (by omega), Nat.zero_add, show n - j = (n - (j + 1)) + 1 by omega, bitsA_cons]
  have e : bt (c - 2 ^ j) j = false := by rw [bt_less hc6 (by omega) (by omega) h]; simp
  rw [e, if_neg (by simp), bitsA_less hc6 (by omega) (by omega) h (.inr (by omega)), bitsA_less hc6 (by omega) (by omega) h (.inl (by omega))]
theorem bitsA_empty {a k m : Nat} (h : ∀ i, a ≤ i → i < a + k → bt m i = false) : bitsA a k m = [] := by
  unfold bitsA
  rw [List.filter_eq_nil_iff]
  intro i hi
  have := List.mem_range'_1.1 hi
  rw [h i this.1 this.2]; simp
/-- The first one apart. -/
theorem bits_first {n m i : Nat} (hn : n ≤ 6) (hm : m < 2 ^ n) (hi : i < n) (h : bt m i = true) (h0 : ∀ k, k < i → bt m k = false) : bits n m = i :: bits n (m - 2 ^ i) := by
  rw [bits_less hn hm hi h, bitsA_empty (fun k _ hk => h0 k (by omega)), List.nil_append]
  unfold bits
  rw [bitsA_split 0 n i _ (by omega), bitsA_empty (fun k _ hk => h0 k (by omega)), List.nil_append, Nat.zero_add, show n - i = (n - (i + 1)) + 1 by omega, bitsA_cons, h, if_pos rfl]
theorem bits_mem {n m i : Nat} (h : i ∈ bits n m) : i < n := by
  unfold bits bitsA at h
  have := List.mem_range'_1.1 (List.mem_filter.1 h).1
  omega
theorem bits_ord (n m : Nat) : Ord n (bits n m) := ⟨bt m, by unfold bits bitsA; rw [List.range_eq_range']⟩
def maskB (b : Nat → Bool) : Nat := (if b 0 then 1 else 0) + (if b 1 then 2 else 0) + (if b 2 then 4 else 0) + (if b 3 then 8 else 0) + (if b 4 then 16 else 0) + (if b 5 then 32 else 0)
theorem ord_bits {n : Nat} (hn : n ≤ 6) {R : List Nat} (h : Ord n R) : ∃ m, m < 2 ^ n ∧ bits n m = R := by
  have key : ∀ b0 b1 b2 b3 b4 b5 : Bool, ∀ i : Fin 6, bt ((if b0 then 1 else 0) + (if b1 then 2 else 0) + (if b2 then 4 else 0) + (if b3 then 8 else 0) + (if b4 then 16 else 0) + (if b5 then 32 else 0)) i.val = [b0, b1, b2, b3, b4, b5].getD i.val false := by decide +kernel
  have key2 : ∀ n : Fin 7, ∀ b0 b1 b2 b3 b4 b5 : Bool, (∀ i : Fin 6, n.val ≤ i.val → [b0, b1, b2, b3, b4, b5].getD i.val false = false) → (if b0 then 1 else 0) + (if b1 then 2 else 0) + (if b2 then 4 else 0) + (if b3 then 8 else 0) + (if b4 then 16 else 0) + (if b5 then 32 else 0) < 2 ^ n.val := by decide +kernel
  obtain ⟨f, rfl⟩ := h
  obtain ⟨g, hg⟩ : ∃ g : Nat → Bool, ∀ i, g i = (decide (i < n) && f i) := ⟨_, fun _ => rfl⟩
  have hget : ∀ i, i < 6 → [g 0, g 1, g 2, g 3, g 4, g 5].getD i false = g i := fun i hi => by
    rcases i with _ | _ | _ | _ | _ | _ | i
    all_goals first | rfl | omega
  refine ⟨maskB g, key2 ⟨n, by omega⟩ (g 0) (g 1) (g 2) (g 3) (g 4) (g 5) fun i hi => ?_, ?_⟩
  · rw [hget i.val i.isLt, hg]
    have : decide (i.val < n) = false := decide_eq_false (by show ¬ i.val < n; have : n ≤ i.val := hi; omega)
    rw [this]; rfl
  · unfold bits bitsA
    rw [List.range_eq_range']
    refine List.filter_congr fun i hi => ?_
    have h1 := List.mem_range'_1.1 hi
    have h2 := key (g 0) (g 1) (g 2) (g 3) (g 4) (g 5) ⟨i, by omega⟩
    have h3 := (h2.trans (hget i (by omega))).trans (hg i)
    rw [decide_eq_true (by omega : i < n), Bool.true_and] at h3
    exact h3
end Go.Proofs.Ytnkkkgaojhkniab

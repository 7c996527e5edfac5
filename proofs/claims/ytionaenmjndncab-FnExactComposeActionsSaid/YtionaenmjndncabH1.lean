/- Walks: lists without zeros at their end, on both sides. -/
import Derived.Test.YtionaenmjndncabG7
set_option linter.unusedVariables false
set_option linter.unusedSimpArgs false
namespace Go.Proofs.Ytionaenmjndncab
open Go.RowKit
/-- The length without zeros at the end. -/
def tlen (M : Nat → List Int) : Nat → Nat
  | 0 => 0
  | n + 1 => if M n = [] then tlen M n else n + 1
theorem tlen_le (M : Nat → List Int) : ∀ n, tlen M n ≤ n
  | 0 => Nat.le_refl _
  | n + 1 => by
    unfold tlen
    split
    · have := tlen_le M n; omega
    · exact Nat.le_refl _
theorem tlen_nil {M : Nat → List Int} {n : Nat} (h : M n = []) : tlen M (n + 1) = tlen M n := if_pos h
theorem tlen_ne {M : Nat → List Int} {n : Nat} (h : M n ≠ []) : tlen M (n + 1) = n + 1 := if_neg h
theorem tlen_congr {M M' : Nat → List Int} : ∀ {n : Nat}, (∀ i, i < n → M i = M' i) → tlen M n = tlen M' n
  | 0, _ => rfl
  | n + 1, h => by
    unfold tlen
    rw [h n (by omega), tlen_congr fun i hi => h i (by omega)]
theorem tlen_pad {M : Nat → List Int} {n : Nat} : ∀ m, (∀ i, n ≤ i → M i = []) → tlen M (n + m) = tlen M n
  | 0, _ => rfl
  | m + 1, h => by rw [← Nat.add_assoc, tlen_nil (h _ (by omega)), tlen_pad m h]
theorem RwC.cut {w : World} {oa : Option Addr} {n k c : Nat} {R : Nat → Value} {M : Nat → List Int} (h : RwC w (.slice oa n c) n R M) (hk : k ≤ n) : RwC w (.slice oa k c) k R M := by
  obtain ⟨⟨oa', c', h1, h2⟩, h3⟩ := h
  injection h1 with e1 e2 e3
  subst e1 e3
  refine ⟨⟨oa, c, rfl, fun h0 => ?_⟩, fun i hi => h3 i (by omega)⟩
  obtain ⟨g, e, hg⟩ := h2 (by omega)
  exact ⟨g, e, fun i hi => hg i (by omega)⟩
set_option maxRecDepth 20000 in
set_option maxHeartbeats 1000000 in
theorem withoutZeros_any (v : Value) (n : Nat) (R : Nat → Value) (M : Nat → List Int) (B T : Nat) (w : World) (h : RwB w B T v n R M) (hn : n ≤ 1000000) :
    Calls Try.prog 48 #[v] w fun e w' => ∃ u, e = .returned u ∧ RwC w u (tlen M n) R M ∧ w = w' := by
  have hc := h.c
  obtain ⟨⟨oa, rfl, hO⟩, hR⟩ := h
  have hCH := Lib.hid hc
  have hOH := Lib.hid hO
  have hRH := Lib.hid hR
  obtain ⟨K, hK⟩ : ∃ K, tlen M n = K := ⟨_, rfl⟩
  have hKn : K ≤ n := hK ▸ tlen_le M n
  have hKH := Lib.hid hK
  rw [hK]
  clear hc hO hR hK
  go_enter Try.func48, Try.ntmps48
  go_wp2_with fail
  go_loop [3] (fun i => ∃ k : Nat, k ≤ n ∧ i = .int .i64 (k : Int) ∧ tlen M k = K) (fun i => (intOf i).toNat)
  case atStart => exact ⟨n, Nat.le_refl _, rfl, hKH.out⟩
  case round =>
    obtain ⟨k, hk, hi, hT⟩ := hrel
    have hTH := Lib.hid hT; clear hT
    by_cases h0 : k = 0
    · subst h0
      simp only [Int.natCast_zero] at hi
      subst hi
      obtain rfl : 0 = K := hTH.out
      go_wp2_with fail
      go_ret
      exact ⟨_, rfl, by have h9 := hCH.out.cut (Nat.zero_le n); exact ⟨⟨_, _, rfl, fun h => absurd h (by omega)⟩, fun i hi => absurd hi (by omega)⟩, rfl⟩
    · obtain ⟨m, rfl⟩ : ∃ m, k = m + 1 := ⟨k - 1, by omega⟩
      subst hi
      obtain ⟨g, rfl, _, hg⟩ := hOH.out (by omega)
      have hlt : m < n := by omega
      have c0 : w.cell? ⟨g, m, none⟩ = some (R m) := by rw [hg.cell, arr_get_lt R hlt]
      obtain ⟨a1, c1, hsl, hle, hcm, _⟩ := hRH.out m hlt
      rw [hsl] at c0
      clear hsl hg
      by_cases hz : M m = []
      · have hzl : (M m).length = 0 := by rw [hz]; rfl
        rw [hzl] at c0
        have hT2 := Lib.hid (show tlen M m = K by rw [← hTH.out, tlen_nil hz])
        clear hz hzl hle hcm
        go_wp2_with fail
        go_round
        case rel => exact ⟨m, by omega, by go_num, hT2.out⟩
        case measure => simp [intOf] <;> omega
      · obtain ⟨L, hL⟩ : ∃ L, (M m).length = L := ⟨_, rfl⟩
        have hLp : 0 < L := hL ▸ List.length_pos_iff.2 hz
        rw [hL] at c0
        obtain rfl : K = m + 1 := by rw [← hTH.out, tlen_ne hz]
        have hzb : ((L : Int) == 0) = false := by rw [beq_eq_false_iff_ne]; omega
        clear hz hL hle hcm
        go_wp2_with fail
        go_ret
        exact ⟨_, rfl, hCH.out.cut hKn, rfl⟩
theorem PlS.cut {w : World} {B : Nat} {oa : Option Addr} {n k c : Nat} {M : Nat → List Int} (h : PlS w B (.slice oa n c) n M) (hk : k ≤ n) : PlS w B (.slice oa k c) k M := by
  refine ⟨by simp, ?_⟩
  rcases h.2 with ⟨h1, h2⟩ | ⟨g, cap, cur, h1, h2, h3, h4, h5, h6, h7⟩
  · obtain rfl : n = 0 := by simpa using h2
    obtain rfl : k = 0 := by omega
    exact .inl ⟨h1, rfl⟩
  · simp only [Value.slice.injEq, true_and] at h1
    obtain ⟨rfl, rfl⟩ := h1
    refine .inr ⟨g, c, cur, rfl, h2, h3, by omega, h5, h6, ?_⟩
    have h8 := congrArg (List.take (k * 64)) h7
    rw [List.take_take, Nat.min_eq_left (Nat.mul_le_mul_right 64 hk), ← List.map_take] at h8
    rw [h8, List.take_range, Nat.min_eq_left (Nat.mul_le_mul_right 64 hk)]
theorem PlS.cap_le {w : World} {B : Nat} {oa : Option Addr} {n c : Nat} {M : Nat → List Int} (h : PlS w B (.slice oa n c) n M) : n ≤ c := by
  rcases h.2 with ⟨h1, h2⟩ | ⟨g, cap, cur, h1, h2, h3, h4, h5, h6, h7⟩
  · have : n = 0 := by simpa using h2
    omega
  · simp only [Value.slice.injEq, true_and] at h1
    omega
def slLen : Value → Nat
  | .slice _ n _ => n
  | _ => 0
theorem z_dec {xs : List Int} (h : xs = []) {inst : Decidable (∀ i, i < 64 → cf xs i = cf [] i)} : @decide (∀ i, i < 64 → cf xs i = cf [] i) inst = true := decide_eq_true fun i _ => by rw [h]
set_option maxRecDepth 20000 in
set_option maxHeartbeats 1000000 in
theorem l04TrimG_any (v : Value) (n B : Nat) (p : Int) (M : Nat → List Int) (w : World) (hv : PlS w B v n M) (hn : n ≤ 1000) (hM : ∀ i, i < n → P64 p (M i)) :
    Calls Try.prog 43 #[v] w fun e w' => ∃ u, e = .returned u ∧ PlS w B u (tlen M n) M ∧ w = w' := by
  obtain ⟨oa, cap, rfl⟩ := hv.slice
  have hcap := hv.cap_le
  have hvH := Lib.hid hv
  have hMH := Lib.hid hM
  obtain ⟨K, hK⟩ : ∃ K, tlen M n = K := ⟨_, rfl⟩
  have hKH := Lib.hid hK
  rw [hK]
  clear hM hv hK
  go_enter Try.func43, Try.ntmps43
  go_wp2_with fail
  go_loopw [0] (fun u wq => ∃ k : Nat, k ≤ n ∧ u = .slice oa k cap ∧ tlen M k = K ∧ wq = w) (fun u _ => slLen u)
  case atStart => exact ⟨n, Nat.le_refl _, rfl, hKH.out, rfl⟩
  case round =>
    obtain ⟨k, hk, rfl, hT, rfl⟩ := hrel
    have hTH := Lib.hid hT; clear hT
    by_cases h0 : k = 0
    · subst h0
      obtain rfl : 0 = K := hTH.out
      go_wp2_with fail
      go_ret
      exact ⟨_, rfl, hvH.out.cut (Nat.zero_le n), rfl⟩
    · obtain ⟨m, rfl⟩ : ∃ m, k = m + 1 := ⟨k - 1, by omega⟩
      have hlt : m < n := by omega
      have hmc : m ≤ cap := by omega
      obtain ⟨g, c2, e, _⟩ := hvH.out.form (by omega)
      injection e with e1 e2 e3
      subst e1
      have hcl := Lib.hid (hvH.out.cells m hlt)
      clear e3
      by_cases hz : M m = []
      · have hT2 := Lib.hid (show tlen M m = K by rw [← hTH.out, tlen_nil hz])
        have hzH := Lib.hid hz
        clear hz
        go_wp2_with ((with_reducible refine wpl_guard ?_); first | (refine wpl_load_mid rfl 23 _ rfl g (m * 64) rfl 64 _ _ hcl.out uPoly sPoly ?_) | (refine wpl_build_zero rfl 23 64 5 rfl _ uPoly sByte zPoly ?_) | (refine wpl_eql_arr rfl 23 _ _ _ rfl 64 .u8 (cf (M m)) (cf []) 5 rfl rfl uPoly uByte sByte gPoly _ (z_dec hzH.out) ?_))
        go_roundw
        case rel => exact ⟨m, by omega, by first | rfl | go_num, hT2.out, by first | rfl | trivial⟩
        case measure => simp [slLen]
      · obtain rfl : K = m + 1 := by rw [← hTH.out, tlen_ne hz]
        have hzH := Lib.hid hz
        clear hz
        go_wp2_with ((with_reducible refine wpl_guard ?_); first | (refine wpl_load_mid rfl 23 _ rfl g (m * 64) rfl 64 _ _ hcl.out uPoly sPoly ?_) | (refine wpl_build_zero rfl 23 64 5 rfl _ uPoly sByte zPoly ?_) | (refine wpl_eql_arr rfl 23 _ _ _ rfl 64 .u8 (cf (M m)) (cf []) 5 rfl rfl uPoly uByte sByte gPoly _ (nz_dec2 (hMH.out m hlt) hzH.out) ?_))
        go_ret
        exact ⟨_, rfl, hvH.out.cut hk, rfl⟩
end Go.Proofs.Ytionaenmjndncab

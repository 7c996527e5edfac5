/- Walks: moduli, the polynomial 1, and the codes of polynomials with a modulus. -/
import Derived.Test.YtojkngdabejjdaaSpd
import Derived.Test.YtojkngdabejjdaaCmn
import Derived.Test.YtojkngdabejjdaaPure
set_option linter.unusedVariables false
set_option linter.unusedSimpArgs false
namespace Go.Proofs.Ytojkngdabejjdaa
open Go.RowKit

/-- A modulus. -/
def Mon (m : List Int) : Prop := cf m (m.length - 1) = 1 ∧ 2 ≤ m.length ∧ m.length ≤ 6
instance (m : List Int) : Decidable (Mon m) := by unfold Mon; infer_instance
/-- The code of polynomials and a modulus. -/
def modC (b c : Bool) : Int := if b then (if c then 0 else 2) else 1

set_option maxHeartbeats 400000 in
theorem isOne_any (v : Value) (xs : List Int) (w : World) (h : IsRow w v xs) (b : Bool) (hb : decide (xs = [1]) = b) :
    Calls Try.prog 11 #[v] w fun e w' => e = .returned (.bool b) ∧ w = w' := by
  obtain ⟨oa, cap, rfl, hle, hcap, hcell⟩ := h
  unfold maxLen at hcap
  by_cases hl : xs.length = 1
  · obtain ⟨x, rfl⟩ : ∃ x, xs = [x] := by
      cases xs with
      | nil => simp at hl
      | cons x t => cases t with
        | nil => exact ⟨x, rfl⟩
        | cons y t => simp at hl
    obtain ⟨g, off, rfl, hc⟩ := hcell (by simp)
    have c0 := hc 0 (by simp)
    rw [cf_cons_zero, Nat.add_zero] at c0
    have hb2 : (x == 1) = b := by rw [← hb]; by_cases e : x = 1 <;> simp [e]
    simp only [List.length_cons, List.length_nil, Nat.zero_add] at *
    clear hb hcell hc hl
    go_enter Try.func11, Try.ntmps11
    go_wp2
    go_ret
    exact ⟨rfl, rfl⟩
  · have hl2 : ((xs.length : Int) == 1) = false := by rw [beq_eq_false_iff_ne]; omega
    have hb2 : b = false := by
      rw [← hb, decide_eq_false_iff_not]; intro e; rw [e] at hl; simp at hl
    subst hb2
    clear hb hcell
    go_enter Try.func11, Try.ntmps11
    go_wp2
    go_ret
    exact ⟨rfl, rfl⟩

set_option maxHeartbeats 400000 in
theorem isModulus_any (f : Nat → Int) (w : World) (hf : By f) (b : Bool) (hb : decide (Mon (mkp 64 f)) = b) :
    Calls Try.prog 24 #[.agg (u8s 64 f)] w fun e w' => e = .returned (.bool b) ∧ Below w.heap.size w w' := by
  have hfH := Lib.hid hf; clear hf
  have hB := Blk.new w (u8s 64 f) 25
  have hb0 := below_new w (.cells (u8s 64 f) 25)
  obtain ⟨xs, hxs⟩ : ∃ xs, mkp 64 f = xs := ⟨_, rfl⟩
  have hro := fun w => rowOf_any f w hfH.out.on
  rw [hxs] at hb hro
  replace hro := Lib.hid hro
  clear hxs
  by_cases h1 : cf xs (xs.length - 1) = 1
  · have hw : decide (1 ≤ (xs.length : Int) - 1 ∧ (xs.length : Int) - 1 ≤ 5) = b := by
      rw [← hb]; apply decide_eq_decide.2
      constructor
      · intro h; exact ⟨h1, by omega, by omega⟩
      · intro h; have := h.2; omega
    have hwH := Lib.hid hw
    clear hw hb
    have h1b : (cf xs (xs.length - 1) == 1) = true := by simpa using h1
    clear h1
    go_enter Try.func24, Try.ntmps24
    go_wp2_with (first | (refine wpl_load_arr rfl 25 _ rfl _ rfl _ _ hB _ _ uPoly sPoly ?_))
    refine (hro.out _).mono ?_
    rintro e w1 ⟨v, rfl, hr, hn⟩
    have hrH := Lib.hid hr
    clear hr
    go_wp2_with fail
    refine (lead_any _ _ _ hrH.out).mono ?_
    rintro e w2 ⟨rfl, rfl⟩
    go_wp2_with fail
    refine (degree_any _ _ _ hrH.out).mono ?_
    rintro e w2 ⟨rfl, rfl⟩
    go_wp2_with fail
    refine (within_any _ _ _ _ b hwH.out).mono ?_
    rintro e w2 ⟨rfl, rfl⟩
    go_wp2_with fail
    go_ret
    exact ⟨rfl, below_step hb0 hn⟩
  · have hb2 : b = false := by rw [← hb]; exact decide_eq_false fun h => h1 h.1
    subst hb2
    have h1b : (cf xs (xs.length - 1) == 1) = false := by simpa using h1
    clear h1 hb
    go_enter Try.func24, Try.ntmps24
    go_wp2_with (first | (refine wpl_load_arr rfl 25 _ rfl _ rfl _ _ hB _ _ uPoly sPoly ?_))
    refine (hro.out _).mono ?_
    rintro e w1 ⟨v, rfl, hr, hn⟩
    have hrH := Lib.hid hr
    clear hr
    go_wp2_with fail
    refine (lead_any _ _ _ hrH.out).mono ?_
    rintro e w2 ⟨rfl, rfl⟩
    go_wp2_with fail
    go_ret
    exact ⟨rfl, below_step hb0 hn⟩

set_option maxHeartbeats 400000 in
theorem l01Monic_any (f : Nat → Int) (w : World) (hf : By f) (b : Bool) (hb : decide (cf (mkp 64 f) ((mkp 64 f).length - 1) = 1) = b) :
    Calls Try.prog 16 #[.agg (u8s 64 f)] w fun e w' => e = .returned (.bool b) ∧ Below w.heap.size w w' := by
  have hfH := Lib.hid hf; clear hf
  have hB := Blk.new w (u8s 64 f) 25
  have hb0 := below_new w (.cells (u8s 64 f) 25)
  have hdg := fun w => l01Deg_any f w hfH.out.on
  obtain ⟨L, hL⟩ : ∃ L, (mkp 64 f).length = L := ⟨_, rfl⟩
  have hL64 : L ≤ 64 := hL ▸ mkp_length 64 f
  rw [hL] at hb hdg
  have hdgH := Lib.hid hdg
  clear hdg
  by_cases h0 : L = 0
  · have hb2 : b = false := by
      rw [← hb, decide_eq_false_iff_not, cf_ge _ _ (by omega)]; omega
    subst hb2
    have hlt : ¬ (0 : Int) ≤ (L : Int) - 1 := by omega
    clear hb hL h0
    go_enter Try.func16, Try.ntmps16
    go_wp2_with (first | (refine wpl_load_arr rfl 25 _ rfl _ rfl _ _ hB _ _ uPoly sPoly ?_))
    refine (hdgH.out _).mono ?_
    rintro e w1 ⟨rfl, hn⟩
    go_wp2_with fail
    go_ret
    exact ⟨rfl, below_step hb0 hn⟩
  · obtain ⟨m, rfl⟩ : ∃ m, L = m + 1 := ⟨L - 1, by omega⟩
    rw [Nat.add_sub_cancel] at hb
    have hm1 : ((m + 1 : Nat) : Int) - 1 = (m : Int) := by omega
    have hm64 : (m : Int) < 64 := by omega
    rw [hm1] at hdgH
    rw [mkp_cf, if_pos (by omega)] at hb
    have hb2 : (f m == 1) = b := by rw [← hb]; by_cases e : f m = 1 <;> simp [e]
    clear hb hL h0
    have hr1 := (hfH.out m).1
    have hr2 := (hfH.out m).2
    go_enter Try.func16, Try.ntmps16
    go_wp2_with (first | (refine wpl_load_arr rfl 25 _ rfl _ rfl _ _ hB _ _ uPoly sPoly ?_))
    refine (hdgH.out _).mono ?_
    rintro e w1 ⟨rfl, hn⟩
    have hB1 := hB.keep hn
    have c0 : w1.cell? ⟨w.heap.size, m, none⟩ = some (.int .u8 (f m)) := by rw [hB1.cell, u8s_get _ (by omega)]
    clear hB1
    go_wp2_with fail
    go_ret
    exact ⟨rfl, below_step hb0 hn⟩
end Go.Proofs.Ytojkngdabejjdaa

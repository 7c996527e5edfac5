/- Walks: units and inverses modulo a modulus. -/
import Derived.Test.YtojkngdabejjdaaE2
set_option linter.unusedVariables false
set_option linter.unusedSimpArgs false
namespace Go.Proofs.Ytojkngdabejjdaa
open Go.RowKit

theorem eq_one_dec {p : Int} {D : List Int} (hD : P64 p D) {b : Bool} (h : decide (D = [1]) = b) {inst : Decidable (∀ i, i < 64 → cf D i = cf [1] i)} : @decide (∀ i, i < 64 → cf D i = cf [1] i) inst = b := by
  rw [← h]; refine decide_eq_decide.2 ⟨fun h => ?_, fun h i _ => by rw [h]⟩
  have := hD.pr.pos
  refine hD.po.ext (one_Po (by omega)) fun i => ?_
  by_cases hi : i < 64
  · exact h i hi
  · rw [cf_ge D i (by have := hD.le; omega), cf_ge [1] i (by simp; omega)]

set_option maxRecDepth 20000 in
set_option maxHeartbeats 2000000 in
theorem l02Unit_any (xs ys : List Int) (p : Int) (w : World) (hx : P64 p xs) (hy : P64 p ys) (hne : ys ≠ []) (b : Bool) (hb : decide ((bez p xs ys).1 = [1]) = b) :
    Calls Try.prog 8 #[.int .i64 p, .agg (u8s 64 (cf xs)), .agg (u8s 64 (cf ys))] w fun e w' => e = .returned (.bool b) ∧ Below w.heap.size w w' := by
  have hD := (bez_P64 hx hy (Or.inr hne)).1
  have hg := fun w => l01Gcd_any xs ys p w hx hy
  have hgc : gcdp p xs ys = (bez p xs ys).1 := if_neg fun h => hne h.2
  rw [hgc] at hg
  obtain ⟨D, hDD⟩ : ∃ D, (bez p xs ys).1 = D := ⟨_, rfl⟩
  rw [hDD] at hD hb hg
  have hgH := Lib.hid hg
  have hDH := Lib.hid hD
  have hbH := Lib.hid hb
  clear hD hg hgc hDD hx hy hne hb
  obtain ⟨hb, hA, hB⟩ := boxes2 w (u8s 64 (cf xs)) (u8s 64 (cf ys)) 25 25
  go_enter Try.func8, Try.ntmps8
  go_wp2_with ((with_reducible refine wpl_guard ?_); first | (refine wpl_load_arr rfl 25 _ rfl _ rfl _ _ hA _ _ uPoly sPoly ?_) | (refine wpl_load_arr rfl 25 _ rfl _ rfl _ _ hB _ _ uPoly sPoly ?_))
  refine (hgH.out _).mono ?_
  rintro e u1 ⟨rfl, hn⟩
  replace hA := hA.keep hn
  replace hB := hB.keep hn
  replace hb := below_step hb hn
  clear hn
  go_wp2_with ((with_reducible refine wpl_guard ?_); first | (refine wpl_load_arr rfl 25 _ rfl _ rfl _ _ hA _ _ uPoly sPoly ?_) | (refine wpl_load_arr rfl 25 _ rfl _ rfl _ _ hB _ _ uPoly sPoly ?_))
  refine (l01One_any _).mono ?_
  rintro e u2 ⟨rfl, hn⟩
  replace hA := hA.keep hn
  replace hB := hB.keep hn
  replace hb := below_step hb hn
  clear hn
  go_wp2_with ((with_reducible refine wpl_guard ?_); first | (refine wpl_eql_arr rfl 25 _ _ _ rfl 64 .u8 (cf D) (cf [1]) 5 rfl rfl uPoly uByte sByte gPoly _ (eq_one_dec hDH.out hbH.out) ?_))
  go_ret
  exact ⟨rfl, hb⟩

end Go.Proofs.Ytojkngdabejjdaa

/- What the law FnDivisors asks of each function, packed. -/
import Derived.Test.YtddgbnkojdmekaaDv1
import Derived.Test.YtddgbnkojdmekaaDivP
set_option linter.unusedVariables false
set_option linter.unusedSimpArgs false
namespace Go.Proofs.Ytddgbnkojdmekaa
open Go.RowKit
theorem Good.of_P64 {p : Int} {xs ys : List Int} (hx : P64 p xs) (hy : P64 p ys) : Good p [cf xs, cf ys] := ⟨hx.pr, fun f hf i _ => by
  simp only [List.mem_cons, List.not_mem_nil, or_false] at hf
  rcases hf with rfl | rfl
  · exact (hx.po.md i).2
  · exact (hy.po.md i).2⟩
theorem P64.byA {p : Int} {xs : List Int} (h : P64 p xs) : By (cf xs) := fun i => By_of_Po h.pr h.po i
theorem Good.of2 {p : Int} {f : Nat → Int} {ys : List Int} (hx : P64 p (mkp 64 f)) (hy : P64 p ys) : Good p [f, cf ys] := ⟨hx.pr, fun q hq i hi => by
  simp only [List.mem_cons, List.not_mem_nil, or_false] at hq
  rcases hq with rfl | rfl
  · have := (hx.po.md i).2
    rwa [mkp_cf, if_pos hi] at this
  · exact (hy.po.md i).2⟩
theorem Good.of3 {p : Int} {f : Nat → Int} {ys : List Int} (hy : P64 p ys) (hx : P64 p (mkp 64 f)) : Good p [cf ys, f] := ⟨hx.pr, fun q hq => (Good.of2 hx hy).2 q (by
  simp only [List.mem_cons, List.not_mem_nil, or_false] at hq ⊢
  exact hq.symm)⟩
/-- Bezout on both sides, and what a code 0 means. -/
theorem Bez_pack (p : Int) (f h : Nat → Int) (hf : By f) (hh : By h) : ∃ (F1 F2 F3 : Nat → Int) (c : Int), By F1 ∧ By F2 ∧ By F3 ∧
    (∀ w, Calls Try.prog 6 #[.int .i64 p, .agg (u8s 64 f), .agg (u8s 64 h)] w fun e w' => e = .returned (.tuple #[.agg (u8s 64 F1), .agg (u8s 64 F2), .agg (u8s 64 F3), .int .i64 c]) ∧ Below w.heap.size w w') ∧
    (∀ w, Calls Try.prog 7 #[.int .i64 p, .agg (u8s 64 f), .agg (u8s 64 h)] w fun e w' => e = .returned (.tuple #[.agg (u8s 64 F1), .agg (u8s 64 F2), .agg (u8s 64 F3), .int .i64 c]) ∧ Below w.heap.size w w') ∧
    (c = 0 → ∃ D U V, F1 = cf D ∧ F2 = cf U ∧ F3 = cf V ∧ P64 p (mkp 64 f) ∧ P64 p (mkp 64 h) ∧ P64 p D ∧ P64 p U ∧ P64 p V ∧ BezOk p (mkp 64 f) (mkp 64 h) D U V ∧
      (∀ w, Calls Try.prog 8 #[.int .i64 p, .agg (u8s 64 f), .agg (u8s 64 h)] w fun e w' => e = .returned (.tuple #[.agg (u8s 64 F1), .int .i64 0]) ∧ Below w.heap.size w w')) := by
  obtain ⟨b, hb⟩ := dec_true (Good p [f, h])
  obtain ⟨z1, h1⟩ : ∃ z, decide ((mkp 64 f).length = 0) = z := ⟨_, rfl⟩
  obtain ⟨z2, h2⟩ : ∃ z, decide ((mkp 64 h).length = 0) = z := ⟨_, rfl⟩
  obtain ⟨z, hz⟩ : ∃ z, (z1 && z2) = z := ⟨_, rfl⟩
  have hI := fun w => implBezoutOf_any p f h w hf hh b hb z1 z2 h1 h2 z hz
  have hS := fun w => specBezoutOf_any p f h w hf hh b hb z1 z2 h1 h2 z hz
  have hG := fun w => implGcdOf_any p f h w hf hh b hb z1 z2 h1 h2 z hz
  have hzero : By (fun _ => 0) := fun _ => ⟨Int.le_refl 0, (by decide : (0 : Int) ≤ 255)⟩
  cases b
  · exact ⟨_, _, _, _, hzero, hzero, hzero, hI, hS, fun e => by simp at e⟩
  · have hGd := hb.2 rfl
    have hx := hGd.p64 (f := f) (by simp) hf
    have hy := hGd.p64 (f := h) (by simp) hh
    cases z
    · have hne : mkp 64 f ≠ [] ∨ mkp 64 h ≠ [] := by
        cases z1
        · exact .inl fun e => by rw [e] at h1; simp at h1
        · cases z2
          · exact .inr fun e => by rw [e] at h2; simp at h2
          · cases hz
      obtain ⟨k1, k2, k3⟩ := bez_P64 hx hy hne
      exact ⟨_, _, _, _, k1.byA, k2.byA, k3.byA, hI, hS, fun _ => ⟨_, _, _, rfl, rfl, rfl, hx, hy, k1, k2, k3, bez_ok hx.pr hx.po hy.po hne, hG⟩⟩
    · exact ⟨_, _, _, _, hzero, hzero, hzero, hI, hS, fun e => by simp at e⟩
/-- The rest is none. -/
theorem Div_pack {p : Int} {f : Nat → Int} {D : List Int} (hf : By f) (hx : P64 p (mkp 64 f)) (hD : P64 p D) (hne : D ≠ []) (hd : Dv p (cf D) (cf (mkp 64 f))) : ∃ Q : Nat → Int,
    ∀ w, Calls Try.prog 9 #[.int .i64 p, .agg (u8s 64 f), .agg (u8s 64 (cf D))] w fun e w' => e = .returned (.tuple #[.agg (u8s 64 Q), .agg (u8s 64 fun _ => 0), .int .i64 0]) ∧ Below w.heap.size w w' := by
  have hp2 := hx.pr.pos
  have hI := fun w => implDividePolys_any p f (cf D) w hf hD.byA true ⟨fun _ => rfl, fun _ => Good.of2 hx hD⟩ false (by rw [hD.self]; exact decide_eq_false fun e => hne (List.length_eq_zero_iff.1 e))
  simp only [if_true, Bool.false_eq_true, if_false, hD.self, divs_rest hx.pr hx.po hD.po hne hd, cf_void] at hI
  exact ⟨_, hI⟩
/-- A product, and what a code 0 means. -/
theorem Mul_pack {p : Int} {f : Nat → Int} {U : List Int} (hf : By f) (hx : P64 p (mkp 64 f)) (hU : P64 p U) : ∃ (M : Nat → Int) (c : Int), By M ∧
    (∀ w, Calls Try.prog 10 #[.int .i64 p, .agg (u8s 64 (cf U)), .agg (u8s 64 f)] w fun e w' => e = .returned (.tuple #[.agg (u8s 64 M), .int .i64 c]) ∧ Below w.heap.size w w') ∧
    (c = 0 → M = cf (mulp p U (mkp 64 f)) ∧ P64 p (mulp p U (mkp 64 f))) := by
  have hp2 := hx.pr.pos
  have hI := fun w => implMultiplyPolys_any p (cf U) f w hU.byA hf true ⟨fun _ => rfl, fun _ => Good.of3 hU hx⟩
  simp only [if_true, hU.self] at hI
  by_cases hl : (mulp p U (mkp 64 f)).length ≤ 64
  · have hP : P64 p (mulp p U (mkp 64 f)) := ⟨hx.pr, mulp_Po (by omega) _ _, hl⟩
    rw [show toldF (mulp p U (mkp 64 f)) = cf (mulp p U (mkp 64 f)) from if_pos hl, show toldC (mulp p U (mkp 64 f)) = 0 from if_pos hl] at hI
    exact ⟨_, _, hP.byA, hI, fun _ => ⟨rfl, hP⟩⟩
  · have h1 : toldF (mulp p U (mkp 64 f)) = fun _ => 0 := if_neg hl
    have h2 : toldC (mulp p U (mkp 64 f)) ≠ 0 := by unfold toldC; rw [if_neg hl]; decide
    rw [h1] at hI
    exact ⟨_, _, fun _ => ⟨Int.le_refl 0, (by decide : (0 : Int) ≤ 255)⟩, hI, fun e => absurd e h2⟩
/-- The sum is the divisor. -/
theorem Add_pack {p : Int} {X Y D : List Int} (hX : P64 p X) (hY : P64 p Y) (hs : addp p X Y 1 = D) : ∀ w, Calls Try.prog 11 #[.int .i64 p, .agg (u8s 64 (cf X)), .agg (u8s 64 (cf Y))] w fun e w' => e = .returned (.tuple #[.agg (u8s 64 (cf D)), .int .i64 0]) ∧ Below w.heap.size w w' := by
  have hI := fun w => implAddPolys_any (cf X) (cf Y) p w hX.byA hY.byA true ⟨fun _ => rfl, fun _ => Good.of_P64 hX hY⟩
  simp only [if_true, sumF_list, hs] at hI
  exact hI
end Go.Proofs.Ytddgbnkojdmekaa

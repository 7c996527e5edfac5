/- Walks: the source of draws. -/
import Derived.Test.YtddgbnkojdmekaaBase
import Derived.Test.YtddgbnkojdmekaaCode
import Derived.BigQuiet
set_option linter.unusedVariables false
set_option linter.unusedSimpArgs false
namespace Go.Proofs.Ytddgbnkojdmekaa
open Go.RowKit
/-- A source of numbers lies in a block; its code lies below a base. -/
def Src (B : Nat) (w : World) (g : Nat) : Prop := ∃ (oa : Option Addr) (n c : Nat) (t h : Int), Blk w g #[.slice oa n c, .int .i64 t, .int .u64 h] 93 ∧ B ≤ g ∧ n ≤ maxLen ∧ 0 ≤ t ∧ t ≤ n ∧ 0 ≤ h ∧ h ≤ 18446744073709551615 ∧
  (0 < n → ∃ b o, oa = some ⟨b, o, none⟩ ∧ b < B ∧ ∀ i, i < n → ∃ z : Int, w.cell? ⟨b, o + i, none⟩ = some (.int .u8 z) ∧ 0 ≤ z ∧ z ≤ 255)
theorem setCellK_grown (w : World) (g k : Nat) (v : Value) : w.grownBy (w.setCell ⟨g, k, none⟩ v) (some g) := ⟨rfl, rfl, rfl, by simp, fun q _ hq => heap_setCell_other w ⟨g, k, none⟩ q v (fun e => hq (by simp [e]))⟩
theorem wrap_in (x : Int) : 0 ≤ IntKind.u64.wrap x ∧ IntKind.u64.wrap x ≤ 18446744073709551615 := by rw [IntKind.wrap_u64]; omega
theorem low_in (x : Int) (h0 : 0 ≤ x) (h1 : x ≤ 18446744073709551615) : 0 ≤ wrap64 (bits BinOp.and IntKind.u64 x 16777215) ∧ wrap64 (bits BinOp.and IntKind.u64 x 16777215) ≤ 16777215 := by
  obtain ⟨n, rfl⟩ := Int.eq_ofNat_of_zero_le h0
  have h := bits_and_u64_nat n 16777215 (by omega) (by omega)
  have h2 : n &&& 16777215 ≤ 16777215 := Nat.and_le_right
  rw [show ((16777215 : Nat) : Int) = 16777215 from rfl] at h
  rw [h, wrap64]
  omega
set_option maxRecDepth 20000 in
set_option maxHeartbeats 1000000 in
theorem l01Next_any (B g : Nat) (n : Int) (w : World) (h : Src B w g) :
    Calls Try.prog 52 #[.pointer (some ⟨g, 0, none⟩), .int .i64 n] w fun e w' => ∃ x, e = .returned (.int .i64 x) ∧ 0 ≤ x ∧ (x < n ∨ x = 0) ∧ Src B w' g ∧ w.grownBy w' (some g) := by
  have hS := h
  obtain ⟨oa, m, c, t, hh, hB, hBg, hm, ht0, ht1, hh0, hh1, hc⟩ := h
  have c0 : w.cell? ⟨g, 0, none⟩ = some (.slice oa m c) := by rw [hB.cell]; rfl
  have c1 : w.cell? ⟨g, 1, none⟩ = some (.int .i64 t) := by rw [hB.cell]; rfl
  have c2 : w.cell? ⟨g, 2, none⟩ = some (.int .u64 hh) := by rw [hB.cell]; rfl
  have f2 := hB.free 2
  have hcH := Lib.hid hc
  have hSH := Lib.hid hS
  clear hc hS
  unfold maxLen at hm
  go_enter Try.func52, Try.ntmps52
  by_cases hn : n < 1
  · go_wp2_with fail
    go_ret
    exact ⟨0, rfl, by omega, .inr rfl, hSH.out, World.grownBy.refl _ _⟩
  · go_wp2_with fail
    have hB2 := hB.set 2 (.int .u64 (IntKind.u64.wrap (IntKind.u64.wrap (hh * 6364136223846793005) + 1442695040888963407)))
    have hg2 := setCellK_grown w g 2 (.int .u64 (IntKind.u64.wrap (IntKind.u64.wrap (hh * 6364136223846793005) + 1442695040888963407)))
    have hw := wrap_in (IntKind.u64.wrap (hh * 6364136223846793005) + 1442695040888963407)
    generalize IntKind.u64.wrap (IntKind.u64.wrap (hh * 6364136223846793005) + 1442695040888963407) = h2 at *
    generalize w.setCell ⟨g, 2, none⟩ (.int .u64 h2) = w2 at *
    have hx := low_in (h2 / 8589934592) (by omega) (by omega)
    generalize wrap64 (bits BinOp.and IntKind.u64 (h2 / 8589934592) 16777215) = x at *
    simp only [List.setIfInBounds_toArray, List.set_cons_succ, List.set_cons_zero] at hB2
    have c0 : w2.cell? ⟨g, 0, none⟩ = some (.slice oa m c) := by rw [hB2.cell]; rfl
    have c1 : w2.cell? ⟨g, 1, none⟩ = some (.int .i64 t) := by rw [hB2.cell]; rfl
    have f1 := hB2.free 1
    have hc2 := Lib.hid (fun hm0 => (by
      obtain ⟨b, o, e1, e2, e3⟩ := hcH.out hm0
      refine ⟨b, o, e1, e2, fun i hi => ?_⟩
      obtain ⟨z, h1, h3⟩ := e3 i hi
      exact ⟨z, hg2.cell h1 (by intro e; injection e with e; dsimp only at e; omega), h3⟩ : ∃ b o, oa = some ⟨b, o, none⟩ ∧ b < B ∧ ∀ i, i < m → ∃ z : Int, w2.cell? ⟨b, o + i, none⟩ = some (.int .u8 z) ∧ 0 ≤ z ∧ z ≤ 255))
    have hg2H := Lib.hid hg2
    clear hcH hB hg2
    by_cases hlt : t < m
    · obtain ⟨T, rfl⟩ := Int.eq_ofNat_of_zero_le ht0
      obtain ⟨b, o, rfl, hb, hcz⟩ := hc2.out (by omega)
      obtain ⟨z, hz, hz0, hz1⟩ := hcz T (by omega)
      clear hcz
      go_quiet (fail)
      go_wp2_with fail
      go_quiet (fail)
      go_wp2_with fail
      go_ret
      have hgA := fun N => (show w2.grownBy ((w2.drewN N).setCell ⟨g, 1, none⟩ (.int .i64 ((T : Int) + 1))) (some g) from  World.grownBy.trans (show w2.grownBy (w2.drewN N) (some g) from ⟨rfl, rfl, rfl, Nat.le_refl _, fun _ _ _ => rfl⟩) (setCellK_grown (w2.drewN N) g 1 _))
      have hB3 : ∀ N,  Blk (w2.drewN N) g #[.slice (some ⟨b, o, none⟩) m c, .int .i64 (T : Int), .int .u64 h2] 93 := fun N => hB2
      have hB4 := fun N => (hB3 N).set 1 (.int .i64 ((T : Int) + 1))
      simp only [List.setIfInBounds_toArray, List.set_cons_succ, List.set_cons_zero] at hB4
      refine ⟨_, rfl, Int.emod_nonneg _ (by omega), .inl (Int.emod_lt_of_pos _ (by omega)), ⟨_, m, c, _, h2, hB4 _, hBg, by unfold maxLen; omega, by omega, by omega, hw.1, hw.2, fun h0 => ?_⟩, hg2H.out.trans (hgA _)⟩
      obtain ⟨b', o', e1, e2, e3⟩ := hc2.out h0
      refine ⟨b', o', e1, e2, fun i hi => ?_⟩
      obtain ⟨z', h1, h3⟩ := e3 i hi
      exact ⟨z', (hgA _).cell h1 (by intro e; injection e with e; dsimp only at e; omega), h3⟩
    · go_quiet (fail)
      go_wp2_with fail
      go_ret
      refine ⟨_, rfl, Int.emod_nonneg _ (by omega), .inl (Int.emod_lt_of_pos _ (by omega)), ⟨oa, m, c, t, h2, hB2, hBg, by unfold maxLen; omega, ht0, ht1, hw.1, hw.2, fun h0 => ?_⟩, hg2H.out.trans ⟨rfl, rfl, rfl, Nat.le_refl _, fun _ _ _ => rfl⟩⟩
      obtain ⟨b, o, e1, e2, e3⟩ := hc2.out h0
      exact ⟨b, o, e1, e2, e3⟩
end Go.Proofs.Ytddgbnkojdmekaa

/- Walks: the source of a code. -/
import Derived.Test.YtddgbnkojdmekaaDr5
set_option linter.unusedVariables false
set_option linter.unusedSimpArgs false
namespace Go.Proofs.Ytddgbnkojdmekaa
open Go.RowKit
/-- A code: bytes that lie somewhere. -/
def CodeAt (w : World) (oa : Option Addr) (n : Nat) : Prop := 0 < n → ∃ b o, oa = some ⟨b, o, none⟩ ∧ b < w.heap.size ∧ ∀ i, i < n → ∃ z : Int, w.cell? ⟨b, o + i, none⟩ = some (.int .u8 z) ∧ 0 ≤ z ∧ z ≤ 255
set_option maxRecDepth 20000 in
set_option maxHeartbeats 1000000 in
theorem l01From_any (oa : Option Addr) (n c : Nat) (w : World) (hn : n ≤ maxLen) (h : CodeAt w oa n) :
    Calls Try.prog 39 #[.slice oa n c] w fun e w' => ∃ g, e = .returned (.pointer (some ⟨g, 0, none⟩)) ∧ Src w.heap.size w' g ∧ Below w.heap.size w w' := by
  have hH := Lib.hid h
  unfold maxLen at hn
  clear h
  go_enter Try.func39, Try.ntmps39
  go_upto_region 2 with (fail)
  have hB0 := Blk.new w #[.slice oa n c, .int .i64 0, .int .u64 (12251 + (n : Int))] 93
  have hb0 := below_new w (.cells #[.slice oa n c, .int .i64 0, .int .u64 (12251 + (n : Int))] 93)
  have hE0 : ∃ h : Int, 0 ≤ h ∧ h ≤ 18446744073709551615 ∧ Blk (w.alloc (.cells #[.slice oa n c, .int .i64 0, .int .u64 (12251 + (n : Int))] 93)) w.heap.size #[.slice oa n c, .int .i64 0, .int .u64 h] 93 := ⟨_, by omega, by omega, hB0⟩
  clear hB0
  go_wp2_with fail
  go_loopw [4] (fun iv wr => ∃ k : Nat, k ≤ n ∧ iv = .int .i64 (k : Int) ∧ (∃ h : Int, 0 ≤ h ∧ h ≤ 18446744073709551615 ∧ Blk wr w.heap.size #[.slice oa n c, .int .i64 0, .int .u64 h] 93) ∧ Below w.heap.size w wr) (fun iv _ => n - (intOf iv).toNat)
  case atStart => exact ⟨0, by omega, rfl, hE0, hb0⟩
  case round =>
    clear hE0 hb0
    rename World => w0
    obtain ⟨k, hk, rfl, ⟨h, hh0, hh1, hB⟩, hb⟩ := hrel
    by_cases hlt : k < n
    · by_cases hlt2 : k < 4096
      · obtain ⟨b, o, rfl, hbl, hcz⟩ := hH.out (by omega)
        obtain ⟨z, hz, hz0, hz1⟩ := hcz k hlt
        have hz' := cell_below hz hb
        have c2 : w0.cell? ⟨w.heap.size, 2, none⟩ = some (.int .u64 h) := by rw [hB.cell]; rfl
        have f2 := hB.free 2
        clear hcz hz
        go_upto_region 5 with (fail)
        go_region
        all_goals go_wp2_with fail
        have hB2 := fun v => hB.set 2 v
        simp only [List.setIfInBounds_toArray, List.set_cons_succ, List.set_cons_zero] at hB2
        exact ⟨⟨k + 1, by omega, by go_num, ⟨_, (wrap_in _).1, (wrap_in _).2, (hB2 _).drew⟩, (hb.setCell (Nat.le_refl _) _).drew⟩, by simp [intOf] <;> omega⟩
      · go_wp2_with fail
        go_ret
        refine ⟨_, rfl, ⟨oa, n, c, 0, h, hB, Nat.le_refl _, by unfold maxLen; omega, by omega, by omega, hh0, hh1, fun h0 => ?_⟩, hb⟩
        obtain ⟨b, o, e1, e2, e3⟩ := hH.out h0
        refine ⟨b, o, e1, e2, fun i hi => ?_⟩
        obtain ⟨z, h1, h3⟩ := e3 i hi
        exact ⟨z, cell_below h1 hb, h3⟩
    · go_wp2_with fail
      go_ret
      refine ⟨_, rfl, ⟨oa, n, c, 0, h, hB, Nat.le_refl _, by unfold maxLen; omega, by omega, by omega, hh0, hh1, fun h0 => ?_⟩, hb⟩
      obtain ⟨b, o, e1, e2, e3⟩ := hH.out h0
      refine ⟨b, o, e1, e2, fun i hi => ?_⟩
      obtain ⟨z, h1, h3⟩ := e3 i hi
      exact ⟨z, cell_below h1 hb, h3⟩
end Go.Proofs.Ytddgbnkojdmekaa

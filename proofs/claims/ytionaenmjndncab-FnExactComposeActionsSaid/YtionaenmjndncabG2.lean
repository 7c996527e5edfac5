/- Walks: slices.Grow and slices.Concat over polynomials. -/
import Derived.Test.YtionaenmjndncabG1
import Derived.Lib.AppendZeros
set_option linter.unusedVariables false
set_option linter.unusedSimpArgs false
namespace Go.Proofs.Ytionaenmjndncab
open Go.RowKit
set_option maxRecDepth 20000 in
set_option maxHeartbeats 1000000 in
theorem growP_any (n : Nat) (w : World) (hn : n ≤ 20000000) :
    Calls Try.prog 96 #[.slice none 0 0, .int .i64 (n : Int)] w fun e w' => ∃ v, e = .returned v ∧ (∀ F, Fl w' w.heap.size v 0 F) ∧ Below w.heap.size w w' := by
  by_cases h0 : n = 0
  · subst h0
    go_enter Try.func96, Try.ntmps96
    go_wp2_with fail
    go_ret
    exact ⟨_, rfl, fun F => World.ownsRow_nil _ _ _ _, Below.refl _ _⟩
  · have hnp : 0 < n := by omega
    have hnp2 : (0 : Int) < (n : Int) := by omega
    obtain ⟨i, hi, hz, hsz, hby⟩ := info_parts iPoly
    have hr := fun ty => Lib.run_append_nil_zeros (P := Try.prog) w 29 3 ty 23 i _ .i64 .i64 uPolys1 Try.underlying3 hi hz n hnp (by rw [hsz]; decide) (by omega) (by rw [hby]; omega)
    have hge := grownCap_ge w n 0 23
    have hle := grownCap_le_maxLen w n 0 23 (by unfold maxLen; omega)
    obtain ⟨C, hC⟩ : ∃ C, grownCap w n 0 23 = C := ⟨_, rfl⟩
    rw [hC] at hge hle
    simp only [hC] at hr
    have hcs : (Builtin.zeroCells (Value.agg (u8s 64 fun _ => 0)).cells n ++ Builtin.zeroCells (Value.agg (u8s 64 fun _ => 0)).cells (C - n)).size = C * 64 := by
      simp only [Array.size_append, size_zeroCells, Value.cells, u8s_size, ← Nat.add_mul]
      congr 1; omega
    obtain ⟨cur, hcur⟩ : ∃ cur, Builtin.zeroCells (Value.agg (u8s 64 fun _ => 0)).cells n ++ Builtin.zeroCells (Value.agg (u8s 64 fun _ => 0)).cells (C - n) = cur := ⟨_, rfl⟩
    rw [hcur] at hcs
    simp only [hcur] at hr
    have hrH := Lib.hid hr
    have hfin := Lib.hid (show ∀ F, Fl (w.drew.alloc (.cells cur 23)) w.heap.size (.slice (some ⟨w.heap.size, 0, none⟩) 0 C) 0 F from fun F =>
      ⟨by simp, .inr ⟨w.heap.size, C, cur, rfl, Nat.le_refl _, heap_alloc_new w.drew _, by omega, hle, hcs, by simp⟩⟩)
    have hbf : Below w.heap.size w (w.drew.alloc (.cells cur 23)) := (Below.refl _ _).drew.alloc (Nat.le_refl _) _
    unfold maxLen at hle
    have hle2 : (C : Int) ≤ 9223372036854775807 := by omega
    clear hr hcs hcur hC hi hz hsz hby
    go_enter Try.func96, Try.ntmps96
    go_wp2_with (at_builtin; refine Lib.wpList_append_run _ rfl _ _ 29 3 rfl _ _ rfl rfl _ _ (hrH.out _) ?_)
    go_ret
    exact ⟨_, rfl, hfin.out, hbf⟩
end Go.Proofs.Ytionaenmjndncab

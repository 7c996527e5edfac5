/- Roots and their values. -/
import Derived.Test.YtddgbnkojdmekaaDv2
set_option linter.unusedVariables false
set_option linter.unusedSimpArgs false
namespace Go.Proofs.Ytddgbnkojdmekaa
open Go.RowKit
theorem rootsL_mem {h : Nat → Bool} {P k : Nat} (hk : k < (rootsL h P).length) : ∃ n : Nat, cf (rootsL h P) k = (n : Int) ∧ n < P ∧ h n = true := by
  rw [cf_lt _ _ hk]
  have hm := List.getElem_mem hk
  unfold rootsL at hm
  obtain ⟨n, hn, e⟩ := List.mem_map.1 hm
  obtain ⟨h1, h2⟩ := List.mem_filter.1 hn
  exact ⟨n, e.symm, List.mem_range.1 h1, h2⟩
theorem Roots_pack (p : Int) (f : Nat → Int) (hf : By f) : ∃ (R : List Int) (c : Int), R.length ≤ 7 ∧
    (∀ w, Calls Try.prog 14 #[.int .i64 p, .agg (u8s 64 f)] w (roPost R c w)) ∧ (∀ w, Calls Try.prog 13 #[.int .i64 p, .agg (u8s 64 f)] w (roPost R c w)) ∧
    ∀ k, k < R.length → ∀ w, Calls Try.prog 16 #[.int .i64 p, .agg (u8s 64 f), .int .i64 (cf R k)] w fun e w' => e = .returned (.tuple #[.int .i64 0, .int .i64 0]) ∧ Below w.heap.size w w' := by
  obtain ⟨b, hb⟩ := dec_true (Good p [f])
  obtain ⟨h, hh⟩ : ∃ h : Nat → Bool, ∀ k : Nat, h k = decide (ev p k (mkp 64 f) = 0) := ⟨_, fun k => rfl⟩
  refine ⟨roA b (decide ((mkp 64 f).length = 0)) (rootsL h p.toNat), _, ?_, fun w => specRootsOf_any f p p.toNat b _ h w hf hb rfl (fun hp => by have := hp.pos; omega) hh, fun w => implRootsOf_any f p p.toNat b _ h w hf hb rfl (fun hp => by have := hp.pos; omega) hh, ?_⟩
  · unfold roA
    cases b
    · simp
    · have := rootsL_len h p.toNat
      have hp := (hb.2 rfl).1.pos
      split
      · split
        · simp
        · omega
      · simp
  · intro k hk w
    unfold roA at hk ⊢
    cases b
    · simp at hk
    · have hp := (hb.2 rfl).1.pos
      by_cases hz : decide ((mkp 64 f).length = 0) = true
      · rw [hz] at hk; simp at hk
      · have hz2 : decide ((mkp 64 f).length = 0) = false := by simpa using hz
        rw [hz2] at hk ⊢
        simp only [if_true, Bool.false_eq_true, if_false] at hk ⊢
        obtain ⟨n, e1, h1, h2⟩ := rootsL_mem hk
        rw [e1]
        rw [hh] at h2
        have h3 := implValueAt_any f p n w hf true true hb (decide_eq_true ⟨by omega, by omega⟩)
        simp only [Bool.and_self, if_true, of_decide_eq_true h2] at h3
        exact h3
end Go.Proofs.Ytddgbnkojdmekaa

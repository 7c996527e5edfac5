/- Stages of a search whose vectors are made monic. No program in sight. -/
import Derived.Test.YtionaenmjndncabRelP
set_option linter.unusedVariables false
set_option linter.unusedSimpArgs false
namespace Go.Proofs.Ytionaenmjndncab
theorem invp_one {p : Int} (hp : Pr p) : invp p 1 = 1 := by
  have hp2 := hp.pos
  obtain ⟨h1, h2, h3⟩ := invp_spec hp (show (0 : Int) < 1 by decide) (by omega)
  rw [Int.mul_one, Int.emod_eq_of_lt (by omega) h2] at h3
  exact h3
structure KM (p : Int) (x : Nat → List Int) (N k : Nat) (K T : Nat → List Int) : Prop where
  st : Stage p x (fun a => a.length - 1) k K T
  len : ∀ i, i < k → K i ≠ [] ∧ (K i).length ≤ N
  one : ∀ i, i < k → cf (K i) ((K i).length - 1) = 1
theorem KM.le {p : Int} {x : Nat → List Int} {N k : Nat} {K T : Nat → List Int} (h : KM p x N k K T) : k ≤ N := h.st.le fun i hi => by
  have h1 := h.len i hi
  have h2 := List.length_pos_iff.2 h1.1
  show (K i).length - 1 < N
  omega
theorem KM.zero (p : Int) (x : Nat → List Int) (N : Nat) (K T : Nat → List Int) : KM p x N 0 K T := ⟨Stage.zero _ _ _ _ _, fun _ h => absurd h (by omega), fun _ h => absurd h (by omega)⟩
theorem KM.next {p : Int} (hp : Pr p) {x : Nat → List Int} {N k : Nat} {K T : Nat → List Int} (h : KM p x N k K T) {v o : List Int} (hr : Red p x (fun a => a.length - 1) k K k v o) (hn : v ≠ []) (hl : v.length ≤ N) {c : Int} (hc : invp p (cf v (v.length - 1)) = c) :
    KM p x N (k + 1) (insF k (scl p v c) K) (insF k (scl p o c) T) := by
  have hp2 := hp.pos
  obtain ⟨hm1, hm2⟩ := scl_monic hp hr.pv hn
  have hld := hr.pv.lead hn
  have hinv := (invp_spec hp hld (hr.pv.md _).2).2.2
  rw [hc] at hm1 hm2 hinv
  have hvn : scl p v c ≠ [] := fun e => by have := List.length_pos_iff.2 hn; rw [e] at hm1; simp at hm1; omega
  have hst := h.st.next hp hr hn (scl p v c) (scl p o c) (cf v (v.length - 1)) (scl_Po (by omega) v c) (scl_Po (by omega) o c) (Nat.le_trans (scl_length_le p o c) (Nat.le_of_eq hr.len))
    (by show cf (scl p v c) ((scl p v c).length - 1) ≠ 0; rw [hm1, hm2]; decide)
    (fun n => by
      have h1 := scl_eqp p v c n
      show cf v n % p = (cf v (v.length - 1) * cf (scl p v c) n) % p
      have h2 : cf (scl p v c) n % p = (c * cf v n) % p := h1
      rw [Int.mul_emod, h2, ← Int.mul_emod, ← Int.mul_assoc, Int.mul_comm (cf v (v.length - 1)) c, Int.mul_emod, hinv, Int.one_mul, Int.emod_emod_of_dvd _ (Int.dvd_refl p)])
    (by
      refine (scl_eqp p v c).trans ?_
      refine Eqp.trans ?_ (lin_congr (scl_eqp p o c) (k + 1)).symm
      rw [lin_smul]
      exact Eqp.smul hr.lin)
    (fun i hi => by
      have h1 := hr.zero i hi
      refine (scl_Po (by omega) v c).eq_zero ?_
      have h2 : cf (scl p v c) ((K i).length - 1) % p = (c * cf v ((K i).length - 1)) % p := scl_eqp p v c _
      have h3 : cf v ((K i).length - 1) = 0 := h1
      show cf (scl p v c) ((K i).length - 1) % p = 0
      rw [h2, h3, Int.mul_zero, Int.zero_emod]) k (Nat.le_refl k) (fun i h3 h4 => absurd h3 (by omega))
  refine ⟨hst, fun i hi => ?_, fun i hi => ?_⟩
  · rcases insF_cases (scl p v c) K (Nat.le_refl k) hi with ⟨e1, e2⟩ | ⟨q, hq, e1, e2⟩
    · rw [e1]; exact ⟨hvn, by omega⟩
    · rw [e1]; exact h.len q hq
  · rcases insF_cases (scl p v c) K (Nat.le_refl k) hi with ⟨e1, e2⟩ | ⟨q, hq, e1, e2⟩
    · rw [e1, hm1]; exact hm2
    · rw [e1]; exact h.one q hq
end Go.Proofs.Ytionaenmjndncab

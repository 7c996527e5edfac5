/- Powers modulo a polynomial, products modulo it summed up from the top, powers of numbers. No program in sight. -/
import Derived.Test.YthkkicanockhgaaCong
import Derived.Test.YthkkicanockhgaaCom
namespace Go.Proofs.Ythkkicanockhgaa

/-- Squaring and multiplying. -/
def pwl (p : Int) (m : List Int) (k : Nat) (out base : List Int) : List Int :=
  if h : k = 0 then out else pwl p m (k / 2) (if k % 2 = 1 then mulmod p out base m else out) (mulmod p base base m)
termination_by k
decreasing_by omega
theorem pwl_zero (p : Int) (m out base : List Int) : pwl p m 0 out base = out := by rw [pwl, dif_pos rfl]
theorem pwl_step (p : Int) (m out base : List Int) {k : Nat} (h : k ≠ 0) : pwl p m k out base = pwl p m (k / 2) (if k % 2 = 1 then mulmod p out base m else out) (mulmod p base base m) := by
  rw [pwl, dif_neg h]
def powp (p : Int) (a : List Int) (k : Nat) (m : List Int) : List Int := pwl p m k (rst p [1] m) (rst p a m)

theorem mulmod_Po {p : Int} (hp : Pr p) {a b m : List Int} (hm : Po p m) (hne : m ≠ []) : Po p (mulmod p a b m) := by
  have hp2 := hp.pos
  exact rst_Po hp (mulp_Po (by omega) a b) hm hne
theorem mulmod_lt {p : Int} (hp : Pr p) {a b m : List Int} (hm : Po p m) (hne : m ≠ []) : (mulmod p a b m).length < m.length := by
  have hp2 := hp.pos
  exact rst_lt hp (mulp_Po (by omega) a b) hm hne

theorem letter_cf : cf [0, 1] = mono 1 1 := by
  funext n
  unfold mono
  rcases n with _ | _ | n
  · rfl
  · rfl
  · rw [cf_cons_succ, cf_cons_succ, cf_nil, if_neg (by omega)]
theorem letter_Po {p : Int} (hp : 2 ≤ p) : Po p [0, 1] := by
  refine ⟨.inr (by decide), fun i => ?_⟩
  rw [letter_cf]; unfold mono; split <;> omega
/-- T times a rest. -/
theorem up_eq {p : Int} (hp : Pr p) {a m : List Int} (hm : Po p m) (h2 : 2 ≤ m.length) (hl : a.length < m.length) :
    mkp (m.length - 1) (fun i => ((if i = 0 then 0 else cf a (i - 1)) - cf a (m.length - 2) * invp p (cf m (m.length - 1)) % p * cf m i) % p) = mulmod p [0, 1] a m := by
  have hp2 := hp.pos
  have hne : m ≠ [] := fun e => by rw [e] at h2; simp at h2
  have hinv := invp_spec hp (hm.lead hne) (hm.md _).2
  have hr := mkp_length (m.length - 1) (fun i => ((if i = 0 then 0 else cf a (i - 1)) - cf a (m.length - 2) * invp p (cf m (m.length - 1)) % p * cf m i) % p)
  symm
  refine rst_of_cg hp (mulp_Po (by omega) _ _) hm hne ⟨mkp_Tr _ _, Md_mkp (by omega) fun i _ => ⟨Int.emod_nonneg _ (by omega), Int.emod_lt_of_pos _ (by omega)⟩⟩ (by omega) ?_
  refine ⟨mono (cf a (m.length - 2) * invp p (cf m (m.length - 1)) % p) 0, 1, fun i hi => if_neg (by omega), (mulp_eqp p _ _).trans fun n => ?_⟩
  rw [letter_cf, mono_mul]
  show _ = (cf (mkp _ _) n + pmul _ _ n) % p
  rw [mono_mul, mkp_cf, if_pos (Nat.zero_le n), Nat.sub_zero]
  by_cases h : n < m.length - 1
  · rw [if_pos h, Int.emod_add_emod]
    congr 1
    by_cases e : n = 0
    · rw [if_pos e, if_neg (by omega)]; omega
    · rw [if_neg e, if_pos (by omega)]; omega
  · rw [if_neg h, if_pos (by omega)]
    by_cases e : n = m.length - 1
    · have h3 := top_gone (p := p) (x := cf a (m.length - 2)) hinv.2.2
      rw [e, show m.length - 1 - 1 = m.length - 2 by omega]
      have := Int.emod_eq_emod_iff_emod_sub_eq_zero.2 h3
      rw [Int.one_mul, Int.zero_add]; exact this
    · rw [cf_ge a _ (by omega), cf_ge m n (by omega)]; simp
theorem up_one {p : Int} (hp : Pr p) {a m : List Int} (hm : Po p m) (h1 : m.length = 1) : mulmod p [0, 1] a m = [] := by
  have := mulmod_lt hp (a := [0, 1]) (b := a) hm (fun e => by rw [e] at h1; simp at h1)
  exact List.length_eq_zero_iff.1 (by omega)

/-- The product modulo m from the top. -/
def hrn (p : Int) (a m : List Int) : List Int → List Int
  | [] => []
  | c :: tl => rst p (addp p (mulmod p [0, 1] (hrn p a m tl) m) a c) m
theorem hrn_Po {p : Int} (hp : Pr p) {a m : List Int} (hm : Po p m) (hne : m ≠ []) : ∀ b, Po p (hrn p a m b) ∧ (hrn p a m b).length < m.length
  | [] => by have := hp.pos; exact ⟨Po_nil (by omega), List.length_pos_iff.2 hne⟩
  | c :: tl => by
    have hp2 := hp.pos
    have h := addp_Po (p := p) (by omega) (mulmod p [0, 1] (hrn p a m tl) m) a c
    exact ⟨rst_Po hp h hm hne, rst_lt hp h hm hne⟩
theorem cons_cf (c : Int) (tl : List Int) : cf (c :: tl) = padd (psmul c pone) (pmul (mono 1 1) (cf tl)) := by
  funext n
  show _ = c * pone n + pmul _ _ n
  rw [mono_mul]
  unfold pone
  cases n with
  | zero => rw [cf_cons_zero]; simp
  | succ n => rw [cf_cons_succ]; simp
theorem hrn_cg {p : Int} (hp : Pr p) {a m : List Int} (hm : Po p m) (hne : m ≠ []) : ∀ b, Cg p (cf m) (cf (hrn p a m b)) (pmul (cf a) (cf b))
  | [] => by
    show Cg p (cf m) (cf []) (pmul (cf a) (cf []))
    have e : cf ([] : List Int) = pzero := by funext n; exact cf_nil n
    rw [e, pmul_comm, pzero_mul]; exact Cg.refl _
  | c :: tl => by
    have hp2 := hp.pos
    have ih := hrn_cg hp hm hne (a := a) tl
    refine (rst_cg hp (addp_Po (by omega) _ _ _) hm hne).symm.trans ((Cg.of_eqp (addp_eqp p _ a c)).trans ?_)
    rw [cons_cf, pmul_add, pmul_psmul, pmul_one, padd_comm]
    refine Cg.add (Cg.refl _) ((mulmod_cg hp hm hne).trans ?_)
    rw [letter_cf, ← pmul_assoc, pmul_comm (cf a), pmul_assoc, pmul_comm (mono 1 1), pmul_comm (mono 1 1)]
    exact ih.mul_right (M := 2) fun i hi => if_neg (by omega)
theorem hrn_eq {p : Int} (hp : Pr p) {a m : List Int} (hm : Po p m) (hne : m ≠ []) (b : List Int) : hrn p a m b = mulmod p a b m := by
  obtain ⟨h1, h2⟩ := hrn_Po (a := a) hp hm hne b
  exact cg_unique hp hm hne h1 (mulmod_Po hp hm hne) h2 (mulmod_lt hp hm hne) ((hrn_cg hp hm hne b).trans (mulmod_cg hp hm hne).symm)
theorem hrn_drop (p : Int) (a m b : List Int) (i : Nat) (h : i < b.length) : hrn p a m (b.drop i) = rst p (addp p (mulmod p [0, 1] (hrn p a m (b.drop (i + 1))) m) a (cf b i)) m := by
  rw [drop_cons b i h]; rfl
theorem pwl_Po {p : Int} (hp : Pr p) {m : List Int} (hm : Po p m) (hne : m ≠ []) (k : Nat) : ∀ out base, Po p out → out.length < m.length → Po p base → base.length < m.length → Po p (pwl p m k out base) ∧ (pwl p m k out base).length < m.length := by
  induction k using Nat.strongRecOn with
  | ind k ih =>
    intro out base h1 h2 h3 h4
    by_cases e : k = 0
    · subst e; rw [pwl_zero]; exact ⟨h1, h2⟩
    · rw [pwl_step _ _ _ _ e]
      refine ih (k / 2) (by omega) _ _ ?_ ?_ (mulmod_Po hp hm hne) (mulmod_lt hp hm hne)
      · split
        · exact mulmod_Po hp hm hne
        · exact h1
      · split
        · exact mulmod_lt hp hm hne
        · exact h2
end Go.Proofs.Ythkkicanockhgaa

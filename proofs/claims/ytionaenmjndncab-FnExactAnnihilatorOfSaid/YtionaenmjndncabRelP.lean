/- The least relation of a sequence of vectors, found stage by stage; no program in sight. -/
import Derived.Test.YtionaenmjndncabPure
set_option linter.unusedVariables false
set_option linter.unusedSimpArgs false
namespace Go.Proofs.Ytionaenmjndncab

/-- After i members of the lists. -/
def redN (p : Int) (pl : List Int → Nat) (K T : Nat → List Int) (v o : List Int) : Nat → List Int × List Int
  | 0 => (v, o)
  | i + 1 => (addp p (redN p pl K T v o i).1 (K i) (-(cf (redN p pl K T v o i).1 (pl (K i))) * invp p (cf (K i) (pl (K i)))), addp p (redN p pl K T v o i).2 (T i) (-(cf (redN p pl K T v o i).1 (pl (K i))) * invp p (cf (K i) (pl (K i)))))
/-- A one behind k zeros. -/
def onek (k : Nat) : List Int := List.replicate k 0 ++ [1]
theorem onek_len (k : Nat) : (onek k).length = k + 1 := by simp [onek]
theorem onek_cf (k i : Nat) : cf (onek k) i = if i = k then 1 else 0 := by
  unfold cf onek
  rw [List.getD_eq_getElem?_getD]
  by_cases h : i < k
  · rw [List.getElem?_append_left (by simpa using h), List.getElem?_replicate, if_pos h, if_neg (by omega)]; rfl
  · rw [List.getElem?_append_right (by simpa using h), List.length_replicate]
    by_cases e : i = k
    · subst e; simp
    · rw [if_neg e, List.getElem?_eq_none (by simp; omega)]; rfl
theorem onek_Po {p : Int} (hp : 2 ≤ p) (k : Nat) : Po p (onek k) := by
  refine ⟨Or.inr ?_, fun i => ?_⟩
  · rw [onek_len, Nat.add_sub_cancel, onek_cf, if_pos rfl]; decide
  · rw [onek_cf]; split <;> omega

/-- What has been found ahead of vector k. -/
structure Stage (p : Int) (x : Nat → List Int) (pl : List Int → Nat) (k : Nat) (K T : Nat → List Int) : Prop where
  po : ∀ i, i < k → Po p (K i) ∧ Po p (T i) ∧ (T i).length ≤ k ∧ cf (K i) (pl (K i)) ≠ 0
  tri : ∀ i j, i < j → j < k → cf (K j) (pl (K i)) = 0
  lin : ∀ i, i < k → Eqp p (cf (K i)) (lin (fun j => cf (x j)) (cf (T i)) k)
  all : ∀ j, j < k → Sp p ((List.range k).map fun i => cf (K i)) (cf (x j))
  none : ∀ j, j < k → ¬ ∃ e, Rel p (fun j => cf (x j)) j e
theorem Stage.zero (p : Int) (x : Nat → List Int) (pl : List Int → Nat) (K T : Nat → List Int) : Stage p x pl 0 K T :=
  ⟨fun _ h => absurd h (by omega), fun _ _ _ h => absurd h (by omega), fun _ h => absurd h (by omega), fun _ h => absurd h (by omega), fun _ h => absurd h (by omega)⟩
theorem triF {p : Int} {K : Nat → List Int} {pl : List Int → Nat} : ∀ k, (∀ i, i < k → cf (K i) (pl (K i)) % p ≠ 0) → (∀ i j, i < j → j < k → cf (K j) (pl (K i)) = 0) → Tri p ((List.range k).map fun i => (cf (K i), pl (K i)))
  | 0, _, _ => trivial
  | k + 1, h1, h2 => by
    rw [List.range_succ, List.map_append]
    refine Tri.snoc _ _ (triF k (fun i hi => h1 i (by omega)) fun i j hij hj => h2 i j hij (by omega)) (h1 k (by omega)) fun y hy => ?_
    obtain ⟨i, hi, rfl⟩ := List.mem_map.1 hy
    have := List.mem_range.1 hi
    show cf (K k) (pl (K i)) % p = 0
    rw [h2 i k this (by omega)]; simp
theorem Po.emod_ne {p : Int} {a : List Int} (h : Po p a) {i : Nat} (hn : cf a i ≠ 0) : cf a i % p ≠ 0 := by
  rw [Int.emod_eq_of_lt (h.md i).1 (h.md i).2]; exact hn
theorem Po.eq_zero {p : Int} {a : List Int} (h : Po p a) {i : Nat} (hn : cf a i % p = 0) : cf a i = 0 := by
  rwa [Int.emod_eq_of_lt (h.md i).1 (h.md i).2] at hn
theorem Stage.known {p : Int} {x : Nat → List Int} {pl : List Int → Nat} {k : Nat} {K T : Nat → List Int} (h : Stage p x pl k K T) : Known p (fun j => cf (x j)) k ((List.range k).map fun i => (cf (K i), pl (K i))) := by
  refine ⟨triF k (fun i hi => (h.po i hi).1.emod_ne (h.po i hi).2.2.2) h.tri, fun j hj => ?_, h.none⟩
  rw [List.map_map]; exact h.all j hj
/-- No more stages than places. -/
theorem Stage.le {p : Int} {x : Nat → List Int} {pl : List Int → Nat} {k N : Nat} {K T : Nat → List Int} (h : Stage p x pl k K T) (hN : ∀ i, i < k → pl (K i) < N) : k ≤ N := by
  have h1 := Tri.places _ h.known.tri
  have h2 := nodup_bound N _ h1 fun q hq => by
    rw [List.map_map] at hq
    obtain ⟨i, hi, rfl⟩ := List.mem_map.1 hq
    exact hN i (List.mem_range.1 hi)
  simpa using h2
theorem red_step {p v b l : Int} (hl : l * b % p = 1) : (v + -v * l * b) % p = 0 := by
  have e : v + -v * l * b = v * (1 - l * b) := by
    rw [Int.mul_sub, Int.mul_one, Int.sub_eq_add_neg, Int.neg_mul, Int.neg_mul, Int.mul_assoc]
  rw [e, Int.mul_emod, Int.sub_emod, hl]
  by_cases h1 : p = 1
  · subst h1; simp
  · have : (1 : Int) % p = 1 % p := rfl
    have e2 : (1 % p - 1) % p = 0 := by
      rw [Int.sub_emod, Int.emod_emod_of_dvd _ (Int.dvd_refl p), ← Int.sub_emod]; simp
    rw [e2]; simp
structure Red (p : Int) (x : Nat → List Int) (pl : List Int → Nat) (k : Nat) (K : Nat → List Int) (i : Nat) (v o : List Int) : Prop where
  pv : Po p v
  po : Po p o
  len : o.length = k + 1
  one : cf o k = 1
  lin : Eqp p (cf v) (lin (fun j => cf (x j)) (cf o) (k + 1))
  zero : ∀ j, j < i → cf v (pl (K j)) = 0
  sp : Sp p ((List.range k).map fun j => cf (K j)) (padd (cf v) (psmul (-1) (cf (x k))))
theorem Stage.red {p : Int} (hp : Pr p) {x : Nat → List Int} {pl : List Int → Nat} {k : Nat} {K T : Nat → List Int} (h : Stage p x pl k K T) (hx : Po p (x k)) : ∀ i, i ≤ k → Red p x pl k K i (redN p pl K T (x k) (onek k) i).1 (redN p pl K T (x k) (onek k) i).2
  | 0, _ => by
    have hp2 := hp.pos
    refine ⟨hx, onek_Po hp2.1 k, onek_len k, by rw [show (redN p pl K T (x k) (onek k) 0).2 = onek k from rfl, onek_cf, if_pos rfl], ?_, fun _ h => absurd h (by omega), ?_⟩
    · have e : cf (onek k) = mono 1 k := by funext i; rw [onek_cf]; rfl
      show Eqp p (cf (x k)) (Go.Proofs.Ytionaenmjndncab.lin _ (cf (onek k)) (k + 1))
      rw [e, lin_mono _ (by omega : k < k + 1)]
      exact Eqp.refl _
    · refine .zero (Eqp.of_eq ?_)
      funext i
      show cf (x k) i + -1 * cf (x k) i = 0
      omega
  | i + 1, hi => by
    have hp2 := hp.pos
    have ih := Stage.red hp h hx i (by omega)
    obtain ⟨hK, hT, hTl, hK0⟩ := h.po i (by omega)
    show Red p x pl k K (i + 1) (addp p (redN p pl K T (x k) (onek k) i).1 (K i) (-(cf (redN p pl K T (x k) (onek k) i).1 (pl (K i))) * invp p (cf (K i) (pl (K i))))) (addp p (redN p pl K T (x k) (onek k) i).2 (T i) (-(cf (redN p pl K T (x k) (onek k) i).1 (pl (K i))) * invp p (cf (K i) (pl (K i)))))
    generalize (redN p pl K T (x k) (onek k) i).1 = v at *
    generalize (redN p pl K T (x k) (onek k) i).2 = o at *
    have hinv := (invp_spec hp (show 0 < cf (K i) (pl (K i)) by have := (hK.md (pl (K i))).1; omega) (hK.md _).2).2.2
    obtain ⟨f, hf⟩ : ∃ f, -(cf v (pl (K i))) * invp p (cf (K i) (pl (K i))) = f := ⟨_, rfl⟩
    have hz : (cf v (pl (K i)) + f * cf (K i) (pl (K i))) % p = 0 := by rw [← hf]; exact red_step hinv
    rw [hf]
    have hPv := addp_Po (p := p) (by omega) v (K i) f
    have hPo := addp_Po (p := p) (by omega) o (T i) f
    have hok : cf (addp p o (T i) f) k = 1 := by
      rw [addp_cf, ih.one, cf_ge (T i) k (by omega), Int.mul_zero, Int.add_zero]
      exact Int.emod_eq_of_lt (by omega) (by omega)
    have hol : (addp p o (T i) f).length = k + 1 := by
      have h1 := addp_length p o (T i) f
      have h2 : k < (addp p o (T i) f).length := Nat.lt_of_not_le fun h3 => by rw [cf_ge _ _ h3] at hok; omega
      have := ih.len
      omega
    refine ⟨hPv, hPo, hol, hok, ?_, fun j hj => ?_, ?_⟩
    · refine (addp_eqp p v (K i) f).trans ?_
      refine Eqp.trans ?_ (lin_congr (addp_eqp p o (T i) f) (k + 1)).symm
      rw [lin_add, lin_smul]
      refine Eqp.add ih.lin (Eqp.smul ?_)
      rw [lin_ge (cf_Fin0 (T i)) (show (T i).length ≤ k + 1 by omega)]
      have h3 := h.lin i (by omega)
      rwa [lin_ge (cf_Fin0 (T i)) hTl] at h3
    · refine hPv.eq_zero ?_
      rw [addp_cf, Int.emod_emod_of_dvd _ (Int.dvd_refl p)]
      by_cases e : j = i
      · subst e; exact hz
      · rw [ih.zero j (by omega), h.tri j i (by omega) (by omega)]; simp
    · refine (ih.sp.add ((Sp.mem (p := p) (List.mem_map.2 ⟨i, List.mem_range.2 (by omega), rfl⟩)).smul f)).congr ?_
      refine (Eqp.add (addp_eqp p v (K i) f) (Eqp.refl _)).trans (Eqp.of_eq ?_)
      funext n
      show cf v n + f * cf (K i) n + -1 * cf (x k) n = cf v n + -1 * cf (x k) n + f * cf (K i) n
      omega
theorem Red.done {p : Int} {x : Nat → List Int} {pl : List Int → Nat} {k i : Nat} {K : Nat → List Int} {v o : List Int} (h : Red p x pl k K i v o) (hv : v = []) : Rel p (fun j => cf (x j)) k o := by
  refine ⟨h.po, h.len, h.one, h.lin.symm.trans (Eqp.of_eq ?_)⟩
  rw [hv]; funext n; exact cf_nil n
theorem not_zero {p : Int} {v : List Int} (hv : Po p v) (hn : v ≠ []) : ¬ Eqp p (cf v) pzero := fun e => hn (hv.ext ⟨Tr_nil, fun i => by rw [cf_nil]; have := hv.md 0; omega⟩ fun i => by
  rw [cf_nil]
  have h1 := e i
  refine hv.eq_zero ?_
  rw [h1]; exact Int.zero_emod p)
theorem Stage.no {p : Int} (hp : Pr p) {x : Nat → List Int} {pl : List Int → Nat} {k : Nat} {K T : Nat → List Int} (h : Stage p x pl k K T) {v o : List Int} (hr : Red p x pl k K k v o) (hn : v ≠ []) : ¬ ∃ e, Rel p (fun j => cf (x j)) k e := by
  refine h.known.no hp (v := cf v) ?_ ?_ (not_zero hr.pv hn)
  · rw [List.map_map]; exact hr.sp
  · intro y hy
    obtain ⟨i, hi, rfl⟩ := List.mem_map.1 hy
    show cf v (pl (K i)) % p = 0
    rw [hr.zero i (List.mem_range.1 hi)]; exact Int.zero_emod p
/-- A member put in. -/
def insF {α : Type} (a : Nat) (v : α) (K : Nat → α) (i : Nat) : α := if i < a then K i else if i = a then v else K (i - 1)
theorem insF_lt {α : Type} {a i : Nat} {v : α} {K : Nat → α} (h : i < a) : insF a v K i = K i := if_pos h
theorem insF_at {α : Type} (a : Nat) (v : α) (K : Nat → α) : insF a v K a = v := by unfold insF; rw [if_neg (Nat.lt_irrefl a), if_pos rfl]
theorem insF_gt {α : Type} {a i : Nat} {v : α} {K : Nat → α} (h : a < i) : insF a v K i = K (i - 1) := by unfold insF; rw [if_neg (by omega), if_neg (by omega)]
theorem insF_cases {α : Type} {a k i : Nat} (v : α) (K : Nat → α) (ha : a ≤ k) (hi : i < k + 1) : (insF a v K i = v ∧ i = a) ∨ ∃ j, j < k ∧ insF a v K i = K j ∧ ((i < a ∧ j = i) ∨ (a < i ∧ i = j + 1)) := by
  by_cases h : i < a
  · exact .inr ⟨i, by omega, insF_lt h, .inl ⟨h, rfl⟩⟩
  · by_cases e : i = a
    · subst e; exact .inl ⟨insF_at _ _ _, rfl⟩
    · exact .inr ⟨i - 1, by omega, insF_gt (by omega), .inr ⟨by omega, by omega⟩⟩
theorem Stage.next {p : Int} (hp : Pr p) {x : Nat → List Int} {pl : List Int → Nat} {k : Nat} {K T : Nat → List Int} (h : Stage p x pl k K T) {v o : List Int} (hr : Red p x pl k K k v o) (hn : v ≠ [])
    (v' o' : List Int) (d : Int) (hv : Po p v') (ho : Po p o') (hol : o'.length ≤ k + 1) (hv0 : cf v' (pl v') ≠ 0) (hd : Eqp p (cf v) (psmul d (cf v'))) (hl : Eqp p (cf v') (Go.Proofs.Ytionaenmjndncab.lin (fun j => cf (x j)) (cf o') (k + 1)))
    (hz : ∀ i, i < k → cf v' (pl (K i)) = 0) (a : Nat) (ha : a ≤ k) (hza : ∀ i, a ≤ i → i < k → cf (K i) (pl v') = 0) : Stage p x pl (k + 1) (insF a v' K) (insF a o' T) := by
  have hsub : ∀ u ∈ (List.range k).map (fun i => cf (K i)), u ∈ (List.range (k + 1)).map (fun i => cf (insF a v' K i)) := fun u hu => by
    obtain ⟨i, hi, rfl⟩ := List.mem_map.1 hu
    have hi := List.mem_range.1 hi
    by_cases e : i < a
    · exact List.mem_map.2 ⟨i, List.mem_range.2 (by omega), by rw [insF_lt e]⟩
    · exact List.mem_map.2 ⟨i + 1, List.mem_range.2 (by omega), by rw [insF_gt (by omega), Nat.add_sub_cancel]⟩
  have hvm : cf v' ∈ (List.range (k + 1)).map (fun i => cf (insF a v' K i)) := List.mem_map.2 ⟨a, List.mem_range.2 (by omega), by rw [insF_at]⟩
  refine ⟨fun i hi => ?_, fun i j hij hj => ?_, fun i hi => ?_, fun j hj => ?_, fun j hj => ?_⟩
  · rcases insF_cases v' K ha hi with ⟨e1, e2⟩ | ⟨q, hq, e1, e2⟩
    · subst e2
      rw [insF_at, insF_at]
      exact ⟨hv, ho, hol, hv0⟩
    · have e3 : insF a o' T i = T q := by
        rcases e2 with ⟨h1, rfl⟩ | ⟨h1, rfl⟩
        · exact insF_lt h1
        · rw [insF_gt h1, Nat.add_sub_cancel]
      rw [e1, e3]
      have := h.po q hq
      exact ⟨this.1, this.2.1, by omega, this.2.2.2⟩
  · rcases insF_cases v' K ha (show i < k + 1 by omega) with ⟨e1, e2⟩ | ⟨q, hq, e1, e2⟩
    · rcases insF_cases v' K ha hj with ⟨f1, f2⟩ | ⟨r, hr2, f1, f2⟩
      · omega
      · rw [e1, f1]; exact hza r (by omega) hr2
    · rcases insF_cases v' K ha hj with ⟨f1, f2⟩ | ⟨r, hr2, f1, f2⟩
      · rw [e1, f1]; exact hz q hq
      · rw [e1, f1]; exact h.tri q r (by omega) hr2
  · rcases insF_cases v' K ha hi with ⟨e1, e2⟩ | ⟨q, hq, e1, e2⟩
    · subst e2
      rw [insF_at, insF_at]; exact hl
    · have e3 : insF a o' T i = T q := by
        rcases e2 with ⟨h1, rfl⟩ | ⟨h1, rfl⟩
        · exact insF_lt h1
        · rw [insF_gt h1, Nat.add_sub_cancel]
      rw [e1, e3, lin_ge (cf_Fin0 (T q)) (show (T q).length ≤ k + 1 by have := (h.po q hq).2.2.1; omega)]
      have := h.lin q hq
      rwa [lin_ge (cf_Fin0 (T q)) (h.po q hq).2.2.1] at this
  · by_cases e : j = k
    · subst e
      have h1 := ((Sp.mem (p := p) hvm).smul d).add ((hr.sp.mono hsub).smul (-1))
      refine h1.congr ?_
      refine Eqp.trans ?_ (Eqp.add hd (Eqp.refl _))
      refine Eqp.of_eq ?_
      funext n
      show cf (x j) n = cf v n + -1 * (cf v n + -1 * cf (x j) n)
      omega
    · exact (h.all j (by omega)).mono hsub
  · by_cases e : j = k
    · subst e; exact h.no hp hr hn
    · exact h.none j (by omega)
/-- There is a least relation. -/
theorem least_rel {p : Int} (hp : Pr p) {x : Nat → List Int} {N : Nat} (hx : ∀ j, Po p (x j)) (hN : ∀ j, (x j).length ≤ N) : ∃ k c, k ≤ N ∧ Rel p (fun j => cf (x j)) k c ∧ ∀ j, j < k → ¬ ∃ e, Rel p (fun j => cf (x j)) j e := by
  have hp2 := hp.pos
  refine Classical.byContradiction fun hno => ?_
  have hall : ∀ k, k ≤ N + 1 → ∃ K T, Stage p x (fun a => a.length - 1) k K T ∧ ∀ i, i < k → 0 < (K i).length ∧ (K i).length ≤ N := by
    intro k
    induction k with
    | zero => exact fun _ => ⟨fun _ => [], fun _ => [], Stage.zero _ _ _ _ _, fun i h => absurd h (by omega)⟩
    | succ k ih =>
      intro hk
      obtain ⟨K, T, hS, hl⟩ := ih (by omega)
      have hr := hS.red hp (hx k) k (Nat.le_refl k)
      have hlen : ∀ i, i ≤ k → (redN p (fun a => a.length - 1) K T (x k) (onek k) i).1.length ≤ N := by
        intro i
        induction i with
        | zero => exact fun _ => hN k
        | succ i ih2 =>
          intro hi
          exact Nat.le_trans (addp_length p _ _ _) (Nat.max_le.2 ⟨ih2 (by omega), (hl i (by omega)).2⟩)
      have hle := hlen k (Nat.le_refl k)
      generalize (redN p (fun a => a.length - 1) K T (x k) (onek k) k).1 = v at *
      generalize (redN p (fun a => a.length - 1) K T (x k) (onek k) k).2 = o at *
      by_cases hv : v = []
      · exact absurd ⟨k, o, by omega, hr.done hv, hS.none⟩ hno
      · have hvp := List.length_pos_iff.2 hv
        refine ⟨_, _, hS.next hp hr hv v o 1 hr.pv hr.po (Nat.le_of_eq hr.len) (by have := hr.pv.lead hv; show cf v (v.length - 1) ≠ 0; omega) (Eqp.of_eq (by funext n; exact (Int.one_mul _).symm)) hr.lin hr.zero k (Nat.le_refl k) (fun i h1 h2 => absurd h1 (by omega)), fun i hi => ?_⟩
        rcases insF_cases v K (Nat.le_refl k) hi with ⟨e1, _⟩ | ⟨q, hq, e1, _⟩
        · rw [e1]; exact ⟨hvp, hle⟩
        · rw [e1]; exact hl q hq
  obtain ⟨K, T, hS, hl⟩ := hall (N + 1) (Nat.le_refl _)
  have := hS.le (N := N) fun i hi => by have := hl i hi; show (K i).length - 1 < N; omega
  omega
end Go.Proofs.Ytionaenmjndncab

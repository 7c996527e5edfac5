/- Several texts in one: OrN, OrP, OrQ, OrS. -/
import Derived.Test.YtojkngdabejjdaaPure
import Derived.Test.YtojkngdabejjdaaDig
set_option linter.unusedVariables false
set_option linter.unusedSimpArgs false
/- Orders of units: dividing by primes as long as the power is 1 gives the order. Numbers alone; no program in sight. -/
namespace Go.Proofs.Ytojkngdabejjdaa
/-- What the search for an order keeps: the order is o times k, k divides what is left to be tried, that divides the order; no number below q divides it. -/
structure OI (o order rest q : Nat) : Prop where
  o1 : 1 ≤ o
  r1 : 1 ≤ rest
  two : 2 ≤ q
  has : ∃ k, 1 ≤ k ∧ order = o * k ∧ k ∣ rest
  dv : rest ∣ order
  no : ∀ t, 2 ≤ t → t < q → ¬ t ∣ rest
theorem OI.pos {o order rest q : Nat} (h : OI o order rest q) : 1 ≤ order := by
  obtain ⟨k, h1, h2, _⟩ := h.has
  rw [h2]; exact Nat.mul_pos h.o1 h1
theorem OI.start {o order : Nat} (h1 : 1 ≤ o) (h2 : 1 ≤ order) (h : o ∣ order) : OI o order order 2 := by
  obtain ⟨k, hk⟩ := h
  refine ⟨h1, h2, Nat.le_refl _, ⟨k, ?_, hk, ⟨o, by rw [hk, Nat.mul_comm]⟩⟩, Nat.dvd_refl _, fun t h3 h4 => by omega⟩
  rcases k with _ | k
  · rw [hk] at h2; simp at h2
  · omega
theorem OI.div {o order rest q : Nat} (h : OI o order rest q) (hq : q ∣ rest) : q ∣ order := Nat.dvd_trans hq h.dv
theorem OI.prime {o order rest q : Nat} (h : OI o order rest q) (hq : q ∣ rest) {t : Nat} (h2 : 2 ≤ t) (h3 : t < q) : ¬ t ∣ q := fun e => h.no t h2 h3 (Nat.dvd_trans e hq)
theorem OI.yes {o order rest q : Nat} (h : OI o order rest q) (hq : q ∣ rest) (ho : o ∣ order / q) : OI o (order / q) (rest / q) q := by
  obtain ⟨k, k1, k2, k3⟩ := h.has
  obtain ⟨r, hr⟩ := hq
  obtain ⟨d, hd⟩ := h.dv
  have hq0 : 0 < q := by have := h.two; omega
  have ho2 : order / q = r * d := by rw [hd, hr, Nat.mul_assoc, Nat.mul_div_cancel_left _ hq0]
  have hr2 : rest / q = r := by rw [hr, Nat.mul_div_cancel_left _ hq0]
  have hr1 : 1 ≤ r := by
    rcases r with _ | r
    · have := h.r1; rw [hr] at this; simp at this
    · omega
  obtain ⟨k', hk'⟩ := ho
  have hkq : k = q * k' := by
    have e : o * k = o * (q * k') := by
      rw [← k2, show o * (q * k') = q * (o * k') by rw [Nat.mul_left_comm], ← hk', Nat.mul_div_cancel' (h.div ⟨r, hr⟩)]
    exact Nat.eq_of_mul_eq_mul_left (by have := h.o1; omega) e
  have hk1 : 1 ≤ k' := by
    rcases k' with _ | k'
    · rw [hkq] at k1; simp at k1
    · omega
  refine ⟨h.o1, by omega, h.two, ⟨k', hk1, hk', ?_⟩, ?_, fun t h3 h4 h5 => h.no t h3 h4 ?_⟩
  · rw [hr2]
    obtain ⟨c, hc⟩ := k3
    exact ⟨c, Nat.eq_of_mul_eq_mul_left hq0 (by rw [← hr, hc, hkq, Nat.mul_assoc])⟩
  · rw [hr2, ho2]; exact Nat.dvd_mul_right _ _
  · rw [hr2] at h5; rw [hr]; exact Nat.dvd_trans h5 (Nat.dvd_mul_left _ _)
theorem OI.not {o order rest q : Nat} (h : OI o order rest q) (hq : q ∣ rest) (ho : ¬ o ∣ order / q) : OI o order (rest / q) q := by
  obtain ⟨k, k1, k2, k3⟩ := h.has
  obtain ⟨r, hr⟩ := hq
  have hq0 : 0 < q := by have := h.two; omega
  have hr2 : rest / q = r := by rw [hr, Nat.mul_div_cancel_left _ hq0]
  have hr1 : 1 ≤ r := by
    rcases r with _ | r
    · have := h.r1; rw [hr] at this; simp at this
    · omega
  have hnk : ¬ q ∣ k := fun ⟨k', hk'⟩ => ho ⟨k', by
    rw [k2, hk', show o * (q * k') = q * (o * k') by rw [Nat.mul_left_comm], Nat.mul_div_cancel_left _ hq0]⟩
  have hco : Nat.gcd k q = 1 := by
    have h1 := Nat.gcd_dvd_left k q
    have h2 := Nat.gcd_dvd_right k q
    have h3 : 0 < Nat.gcd k q := Nat.gcd_pos_of_pos_right _ hq0
    have h4 := Nat.le_of_dvd hq0 h2
    by_cases e : Nat.gcd k q = 1
    · exact e
    by_cases e2 : Nat.gcd k q = q
    · rw [e2] at h1; exact absurd h1 hnk
    · exact absurd h2 (h.prime ⟨r, hr⟩ (by omega) (by omega))
  refine ⟨h.o1, by omega, h.two, ⟨k, k1, k2, ?_⟩, ?_, fun t h3 h4 h5 => h.no t h3 h4 ?_⟩
  · rw [hr2]; rw [hr] at k3
    exact Nat.Coprime.dvd_of_dvd_mul_left hco k3
  · rw [hr2]; exact Nat.dvd_trans ⟨q, by rw [hr, Nat.mul_comm]⟩ h.dv
  · rw [hr2] at h5; rw [hr]; exact Nat.dvd_trans h5 (Nat.dvd_mul_left _ _)
theorem OI.next {o order rest q : Nat} (h : OI o order rest q) (hq : ¬ q ∣ rest) : OI o order rest (q + 1) := by
  refine ⟨h.o1, h.r1, by have := h.two; omega, h.has, h.dv, fun t h3 h4 h5 => ?_⟩
  by_cases e : t = q
  · rw [e] at h5; exact hq h5
  · exact h.no t h3 (by omega) h5
theorem OI.done {o order rest q : Nat} (h : OI o order rest q) (hq : rest < q) : order = o := by
  obtain ⟨k, k1, k2, k3⟩ := h.has
  have h1 : rest = 1 := by
    by_cases e : 2 ≤ rest
    · exact absurd (Nat.dvd_refl _) (h.no rest e hq)
    · have := h.r1; omega
  rw [h1] at k3
  have := Nat.dvd_one.1 k3
  rw [k2, this, Nat.mul_one]
theorem OI.less {o order rest q : Nat} (h : OI o order rest q) : rest / q < rest := Nat.div_lt_self (by have := h.r1; omega) (by have := h.two; omega)
end Go.Proofs.Ytojkngdabejjdaa

/- Powers modulo a polynomial; the powers of p go along with sums. No program in sight. -/
namespace Go.Proofs.Ytojkngdabejjdaa
def ppow (f : PS) : Nat → PS
  | 0 => pone
  | k + 1 => pmul (ppow f k) f
theorem ppow_one (f : PS) : ppow f 1 = f := pone_mul f
theorem ppow_add (f : PS) (a : Nat) : ∀ b, ppow f (a + b) = pmul (ppow f a) (ppow f b)
  | 0 => (pmul_one _).symm
  | b + 1 => by
    show pmul (ppow f (a + b)) f = pmul (ppow f a) (pmul (ppow f b) f)
    rw [ppow_add f a b, pmul_assoc]
theorem ppow_mul (f : PS) (a : Nat) : ∀ b, ppow f (a * b) = ppow (ppow f a) b
  | 0 => rfl
  | b + 1 => by
    rw [Nat.mul_succ, ppow_add, ppow_mul f a b]; rfl
theorem ppow_pone : ∀ k, ppow pone k = pone
  | 0 => rfl
  | k + 1 => by show pmul (ppow pone k) pone = pone; rw [ppow_pone k, pmul_one]
theorem ppow_pmul (f g : PS) : ∀ k, ppow (pmul f g) k = pmul (ppow f k) (ppow g k)
  | 0 => (pmul_one _).symm
  | k + 1 => by
    show pmul (ppow (pmul f g) k) (pmul f g) = pmul (pmul (ppow f k) f) (pmul (ppow g k) g)
    rw [ppow_pmul f g k, pmul_assoc, pmul_assoc, pmul_left_comm (ppow g k) f g]
theorem ppow_fin {f : PS} {N : Nat} (h : Fin0 f N) : ∀ k, ∃ M, Fin0 (ppow f k) M
  | 0 => ⟨1, fun i hi => by show pone i = 0; unfold pone; rw [if_neg (by omega)]⟩
  | k + 1 => by obtain ⟨M, hM⟩ := ppow_fin h k; exact ⟨_, hM.pmul h⟩
theorem Eqp.ppow {p : Int} {f g : PS} (h : Eqp p f g) : ∀ k, Eqp p (ppow f k) (ppow g k)
  | 0 => Eqp.refl _
  | k + 1 => (Eqp.ppow h k).mul h
theorem Cg.ppow {p : Int} {m f g : PS} {A B : Nat} (hf : Fin0 f A) (hg : Fin0 g B) (h : Cg p m f g) : ∀ k, Cg p m (ppow f k) (ppow g k)
  | 0 => Cg.refl _
  | k + 1 => by obtain ⟨M, hM⟩ := ppow_fin hg k; exact Cg.mul hf hM (Cg.ppow hf hg h k) h
def rpow (r : RE) : Nat → RE
  | 0 => .one
  | k + 1 => rpow r k * r
theorem frob_of {p : Int} {f g s : PS} {n : Nat} (h : padd (ppow (padd f g) n) (psmul (-1) (padd (ppow f n) (ppow g n))) = psmul p s) : Eqp p (ppow (padd f g) n) (padd (ppow f n) (ppow g n)) :=
  Eqp.of_psub (h ▸ fun i => by show p * s i % p = 0 % p; rw [Int.mul_emod_right, Int.zero_emod])
/-- The p-th power goes along with sums. -/
theorem frob {p : Int} (hp : Pr p) {P : Nat} (hP : p = P) (f g : PS) : Eqp p (ppow (padd f g) P) (padd (ppow f P) (ppow g P)) := by
  have hx : P = 2 ∨ P = 3 ∨ P = 5 ∨ P = 7 := by unfold Pr at hp; omega
  subst hP
  rcases hx with rfl | rfl | rfl | rfl
  · exact frob_of (s := pmul f g) (RE.same [f, g] (rpow (.v 0 + .v 1) 2 + -(rpow (.v 0) 2 + rpow (.v 1) 2)) (.k 2 * (.v 0 * .v 1)) (by decide +kernel) rfl (by show pmul (psmul 2 pone) (pmul f g) = _; rw [psmul_pmul, pone_mul]; rfl))
  · exact frob_of (s := padd (pmul (pmul f f) g) (pmul f (pmul g g))) (RE.same [f, g] (rpow (.v 0 + .v 1) 3 + -(rpow (.v 0) 3 + rpow (.v 1) 3)) (.k 3 * (.v 0 * .v 0 * .v 1 + .v 0 * (.v 1 * .v 1))) (by decide +kernel) rfl (by show pmul (psmul 3 pone) _ = _; rw [psmul_pmul, pone_mul]; rfl))
  · exact frob_of (RE.same [f, g] (rpow (.v 0 + .v 1) 5 + -(rpow (.v 0) 5 + rpow (.v 1) 5)) (.k 5 * (rpow (.v 0) 4 * .v 1 + .k 2 * rpow (.v 0) 3 * rpow (.v 1) 2 + .k 2 * rpow (.v 0) 2 * rpow (.v 1) 3 + .v 0 * rpow (.v 1) 4)) (by decide +kernel) rfl (by show pmul (psmul 5 pone) _ = _; rw [psmul_pmul, pone_mul]; rfl))
  · exact frob_of (RE.same [f, g] (rpow (.v 0 + .v 1) 7 + -(rpow (.v 0) 7 + rpow (.v 1) 7)) (.k 7 * (rpow (.v 0) 6 * .v 1 + .k 3 * rpow (.v 0) 5 * rpow (.v 1) 2 + .k 5 * rpow (.v 0) 4 * rpow (.v 1) 3 + .k 5 * rpow (.v 0) 3 * rpow (.v 1) 4 + .k 3 * rpow (.v 0) 2 * rpow (.v 1) 5 + .v 0 * rpow (.v 1) 6)) (by decide +kernel) rfl (by show pmul (psmul 7 pone) _ = _; rw [psmul_pmul, pone_mul]; rfl))
theorem frobk {p : Int} (hp : Pr p) {P : Nat} (hP : p = P) (f g : PS) : ∀ k, Eqp p (ppow (padd f g) (P ^ k)) (padd (ppow f (P ^ k)) (ppow g (P ^ k)))
  | 0 => by rw [Nat.pow_zero, ppow_one, ppow_one, ppow_one]; exact Eqp.refl _
  | k + 1 => by
    rw [Nat.pow_succ, ppow_mul, ppow_mul, ppow_mul]
    exact (Eqp.ppow (frobk hp hP f g k) P).trans (frob hp hP _ _)
/-- From 1 modulo m to 1 modulo a power of m. -/
theorem lift_one {p : Int} (hp : Pr p) {P : Nat} (hP : p = P) {m f : PS} {A : Nat} (hm : Fin0 m A) (h : Cg p m f pone) {k e : Nat} (he : e ≤ P ^ k) : Cg p (ppow m e) (ppow f (P ^ k)) pone := by
  obtain ⟨x, N, hN, hx⟩ := h
  obtain ⟨N2, hN2⟩ := ppow_fin hN (P ^ k)
  obtain ⟨N3, hN3⟩ := ppow_fin hm (P ^ k - e)
  refine ⟨pmul (ppow x (P ^ k)) (ppow m (P ^ k - e)), _, hN2.pmul hN3, ?_⟩
  refine (Eqp.ppow hx (P ^ k)).trans ((frobk hp hP _ _ k).trans (Eqp.of_eq ?_))
  rw [ppow_pone, ppow_pmul, pmul_assoc, ← ppow_add, Nat.sub_add_cancel he]
/-- What is 1 to a power is 1 to its multiples. -/
theorem Cg.one_mul {p : Int} {m f : PS} {A : Nat} (hf : Fin0 f A) {a : Nat} (h : Cg p m (Go.Proofs.Ytojkngdabejjdaa.ppow f a) pone) (b : Nat) : Cg p m (Go.Proofs.Ytojkngdabejjdaa.ppow f (a * b)) pone := by
  obtain ⟨M, hM⟩ := ppow_fin hf a
  rw [ppow_mul]
  have := Cg.ppow hM (B := 1) (fun i hi => by unfold pone; rw [if_neg (by omega)]) h b
  rwa [ppow_pone] at this
/-- The program's powers, modulo m. -/
theorem pwl_cg {p : Int} (hp : Pr p) {m : List Int} (hm : Po p m) (hne : m ≠ []) (k : Nat) : ∀ out base, Po p out → Po p base → Cg p (cf m) (cf (pwl p m k out base)) (pmul (cf out) (ppow (cf base) k)) := by
  induction k using Nat.strongRecOn with
  | ind k ih =>
    intro out base h1 h2
    by_cases e : k = 0
    · subst e; rw [pwl_zero]; show Cg p (cf m) (cf out) (pmul (cf out) pone); rw [pmul_one]; exact Cg.refl _
    · rw [pwl_step _ _ _ _ e]
      have hb := mulmod_cg hp (a := base) (b := base) hm hne
      obtain ⟨M, hM⟩ := ppow_fin ((cf_Fin0 base).pmul (cf_Fin0 base)) (k / 2)
      have hbp := Cg.ppow (cf_Fin0 (mulmod p base base m)) ((cf_Fin0 base).pmul (cf_Fin0 base)) hb (k / 2)
      have hsq : ppow (pmul (cf base) (cf base)) (k / 2) = ppow (cf base) (2 * (k / 2)) := by
        rw [ppow_mul]; congr 1; show pmul (cf base) (cf base) = pmul (pmul pone (cf base)) (cf base); rw [pone_mul]
      obtain ⟨M2, hM2⟩ := ppow_fin (cf_Fin0 (mulmod p base base m)) (k / 2)
      by_cases hk : k % 2 = 1
      · rw [if_pos hk]
        refine (ih (k / 2) (by omega) _ _ (mulmod_Po hp hm hne) (mulmod_Po hp hm hne)).trans ?_
        refine (Cg.mul hM2 ((cf_Fin0 out).pmul (cf_Fin0 base)) (mulmod_cg hp hm hne) hbp).trans (Cg.of_eqp (Eqp.of_eq ?_))
        rw [hsq, pmul_assoc]
        congr 1
        conv => rhs; rw [show k = 1 + 2 * (k / 2) by omega, ppow_add, ppow_one]
      · rw [if_neg hk]
        refine (ih (k / 2) (by omega) _ _ h1 (mulmod_Po hp hm hne)).trans ?_
        refine (Cg.mul hM2 (cf_Fin0 out) (Cg.refl _) hbp).trans (Cg.of_eqp (Eqp.of_eq ?_))
        rw [hsq]
        congr 2
        omega
theorem powp_cg {p : Int} (hp : Pr p) {a m : List Int} (ha : Po p a) (hm : Po p m) (hne : m ≠ []) (k : Nat) : Cg p (cf m) (cf (powp p a k m)) (ppow (cf a) k) := by
  have h1 := rst_Po hp (one_Po hp.pos.1) hm hne
  have h2 := rst_Po hp ha hm hne
  refine (pwl_cg hp hm hne k _ _ h1 h2).trans ?_
  obtain ⟨M, hM⟩ := ppow_fin (cf_Fin0 (rst p a m)) k
  have h3 := (rst_cg hp (one_Po hp.pos.1) hm hne).symm
  rw [cf_one] at h3
  have h4 := Cg.ppow (cf_Fin0 (rst p a m)) (cf_Fin0 a) (rst_cg hp ha hm hne).symm k
  have := Cg.mul (A := M) (B := 1) hM (fun i hi => by unfold pone; rw [if_neg (by omega)]) h3 h4
  rwa [pone_mul] at this
theorem powp_Po {p : Int} (hp : Pr p) {a m : List Int} (ha : Po p a) (hm : Po p m) (hne : m ≠ []) (k : Nat) : Po p (powp p a k m) ∧ (powp p a k m).length < m.length :=
  pwl_Po hp hm hne k _ _ (rst_Po hp (one_Po hp.pos.1) hm hne) (rst_lt hp (one_Po hp.pos.1) hm hne) (rst_Po hp ha hm hne) (rst_lt hp ha hm hne)
theorem lgs_cg {p : Int} (hp : Pr p) {base m : List Int} (hm : Po p m) (hne : m ≠ []) : ∀ k, Cg p (cf m) (cf (lgs p base m k)) (ppow (cf base) k)
  | 0 => by show Cg p (cf m) (cf [1]) pone; rw [cf_one]; exact Cg.refl _
  | k + 1 => by
    obtain ⟨M, hM⟩ := ppow_fin (cf_Fin0 base) k
    exact (mulmod_cg hp hm hne).trans (Cg.mul (cf_Fin0 base) hM (lgs_cg hp hm hne k) (Cg.refl _))
/-- A power is 1 modulo m: the reference's power says so. -/
theorem powp_one {p : Int} (hp : Pr p) {a m : List Int} (ha : Po p a) (hm : Po p m) (h2 : 2 ≤ m.length) (k : Nat) : powp p a k m = [1] ↔ Cg p (cf m) (ppow (cf a) k) pone := by
  have hne : m ≠ [] := fun e => by rw [e] at h2; simp at h2
  have h1 := powp_cg hp ha hm hne k
  constructor
  · intro h; rw [h, cf_one] at h1; exact h1.symm
  · intro h
    obtain ⟨h3, h4⟩ := powp_Po hp ha hm hne k
    refine cg_unique hp hm hne h3 (one_Po hp.pos.1) h4 (by show 1 < _; omega) ?_
    rw [cf_one]; exact h1.trans h
theorem lgs_one {p : Int} (hp : Pr p) {a m : List Int} (ha : Po p a) (hm : Po p m) (h2 : 2 ≤ m.length) (k : Nat) : lgs p (rst p a m) m k = [1] ↔ Cg p (cf m) (ppow (cf a) k) pone := by
  have hne : m ≠ [] := fun e => by rw [e] at h2; simp at h2
  have h1 := lgs_cg hp (base := rst p a m) hm hne k
  have h5 := Cg.ppow (cf_Fin0 (rst p a m)) (cf_Fin0 a) (rst_cg hp ha hm hne).symm k
  constructor
  · intro h; rw [h, cf_one] at h1; exact (h1.trans h5).symm
  · intro h
    obtain ⟨h3, h4⟩ := lgs_ok (base := rst p a m) hp hm h2 k
    refine cg_unique hp hm hne h3 (one_Po hp.pos.1) h4 (by show 1 < _; omega) ?_
    rw [cf_one]; exact (h1.trans h5).trans h
/-- The exponents that lead to 1 are the multiples of the least one. -/
theorem ord_dvd {p : Int} {m f : PS} {A : Nat} (hf : Fin0 f A) {o : Nat} (h1 : 1 ≤ o) (ho : Cg p m (ppow f o) pone) (hmin : ∀ k, 1 ≤ k → k < o → ¬ Cg p m (ppow f k) pone) (k : Nat) : Cg p m (ppow f k) pone ↔ o ∣ k := by
  have hone : Fin0 pone 1 := fun i hi => by unfold pone; rw [if_neg (by omega)]
  constructor
  · intro h
    have hr : Cg p m (ppow f (k % o)) pone := by
      have e : k = o * (k / o) + k % o := (Nat.div_add_mod k o).symm
      obtain ⟨M, hM⟩ := ppow_fin hf (k % o)
      have h3 := Cg.mul hM hone (Cg.one_mul hf ho (k / o)) (Cg.refl (p := p) (m := m) (ppow f (k % o)))
      rw [← ppow_add, ← e, pone_mul] at h3
      exact h3.symm.trans h
    by_cases hz : k % o = 0
    · exact Nat.dvd_of_mod_eq_zero hz
    · exact absurd hr (hmin _ (by omega) (Nat.mod_lt _ (by omega)))
  · rintro ⟨c, rfl⟩; exact Cg.one_mul hf ho c
end Go.Proofs.Ytojkngdabejjdaa

/- Irreducible polynomials, and Euler's theorem. No program in sight. -/
namespace Go.Proofs.Ytojkngdabejjdaa
theorem pone_Fin0 : Fin0 pone 1 := fun i hi => by unfold pone; rw [if_neg (by omega)]
def Mc (a : List Int) : Prop := a ≠ [] ∧ cf a (a.length - 1) = 1
theorem Dv.quot {p : Int} (hp : Pr p) {d a : List Int} (_ : Po p d) (ha : Po p a) (h : Dv p (cf d) (cf a)) : ∃ q, Po p q ∧ a = mulp p q d := by
  obtain ⟨q, N, hq, e⟩ := h
  have hp2 := hp.pos
  refine ⟨low p N q, low_Po (by omega) N q, ha.eq_of_eqp (mulp_Po (by omega) _ _) ?_⟩
  exact e.trans ((Eqp.mul (low_eqp hq).symm (Eqp.refl _)).trans (mulp_eqp p _ _).symm)
theorem Dv.len {p : Int} (hp : Pr p) {d a : List Int} (hd : Po p d) (ha : Po p a) (h : Dv p (cf d) (cf a)) (hn : a ≠ []) : d ≠ [] ∧ d.length ≤ a.length := by
  obtain ⟨q, hq, e⟩ := h.quot hp hd ha
  have h1 : q ≠ [] := fun e2 => hn (by rw [e, e2, mulp_nil])
  have h2 : d ≠ [] := fun e2 => hn (by rw [e, e2, mulp_nil_right])
  have h3 := mulp_length hp hq hd h1 h2
  have h4 := List.length_pos_iff.2 h1
  rw [← e] at h3
  exact ⟨h2, by omega⟩
theorem dv_rest {p : Int} (hp : Pr p) {d a : List Int} (hd : Po p d) (ha : Po p a) (hn : d ≠ []) : Dv p (cf d) (cf a) ↔ (divp p a d).2 = [] := by
  have hp2 := hp.pos
  obtain ⟨h1, h2, h3, h4⟩ := divp_spec hp ha hd hn
  constructor
  · intro h
    obtain ⟨q, hq, e⟩ := h.quot hp hd ha
    have hl := List.length_pos_iff.2 hn
    have := divp_eq hp ha hd hn hq (Po_nil (by omega)) (by simpa using hl) (by rw [cf_nil_zero, padd_pzero, e]; exact mulp_eqp p q d)
    rw [this]
  · intro h
    rw [h, cf_nil_zero, padd_pzero] at h4
    exact ⟨_, _, cf_Fin0 _, h4⟩
theorem Dv.trans' {p : Int} {a b c : PS} (h : Dv p a b) (k : Dv p b c) : Dv p a c := by
  obtain ⟨q, N, hq, e⟩ := h
  obtain ⟨r, M, hr, e2⟩ := k
  refine ⟨pmul r q, _, hr.pmul hq, e2.trans ?_⟩
  rw [pmul_assoc]
  exact Eqp.mul (Eqp.refl _) e
theorem mon_one {p : Int} {d : List Int} (hd : Po p d) (hm : Mc d) (hl : d.length < 2) : d = [1] := by
  obtain ⟨h1, h2⟩ := hm
  have h3 := List.length_pos_iff.2 h1
  match d, h3, hl, h2 with
  | [x], _, _, h => simp [cf] at h; rw [h]
structure Irr (p : Int) (P : List Int) : Prop where
  po : Po p P
  mon : Mc P
  deg : 2 ≤ P.length
  no : ∀ u, Po p u → Mc u → 2 ≤ u.length → u.length < P.length → ¬ Dv p (cf u) (cf P)
/-- A unit modulo m. -/
def Uni (p : Int) (m a : PS) : Prop := ∃ b N, Fin0 b N ∧ Cg p m (pmul b a) pone
theorem Irr.unit {p : Int} (hp : Pr p) {P a : List Int} (h : Irr p P) (ha : Po p a) (hn : a ≠ []) (hl : a.length < P.length) : Uni p (cf P) (cf a) := by
  have B := bez_ok hp ha h.po (.inl hn)
  have hd : (bez p a P).1 = [1] := by
    refine mon_one B.pd ⟨B.ne, B.one⟩ ?_
    have h1 := (B.da.len hp B.pd ha hn).2
    by_cases e : 2 ≤ (bez p a P).1.length
    · exact absurd B.db (h.no _ B.pd ⟨B.ne, B.one⟩ e (by omega))
    · omega
  have hid := B.id
  rw [hd, cf_one] at hid
  exact ⟨_, _, cf_Fin0 (bez p a P).2.1, Cg.symm ⟨cf (bez p a P).2.2, _, cf_Fin0 _, hid⟩⟩
theorem Uni.cancel {p : Int} {m a x y : PS} {A X Y : Nat} (h : Uni p m a) (hA : Fin0 a A) (hX : Fin0 x X) (hY : Fin0 y Y) (k : Cg p m (pmul a x) (pmul a y)) : Cg p m x y := by
  obtain ⟨b, N, hb, e⟩ := h
  have h1 := Cg.mul (hA.pmul hX) hb (Cg.refl (p := p) (m := m) b) k
  rw [← pmul_assoc, ← pmul_assoc] at h1
  have h2 := Cg.mul hX pone_Fin0 e (Cg.refl (p := p) (m := m) x)
  have h3 := Cg.mul hY pone_Fin0 e (Cg.refl (p := p) (m := m) y)
  rw [pone_mul] at h2 h3
  exact h2.symm.trans (h1.trans h3)
def lprod (l : List (List Int)) : PS := l.foldr (fun x s => pmul (cf x) s) pone
theorem lprod_perm {l l' : List (List Int)} (h : l.Perm l') : lprod l = lprod l' := by
  induction h with
  | nil => rfl
  | cons x _ ih => show pmul (cf x) _ = pmul (cf x) _; rw [show List.foldr (fun x s => pmul (cf x) s) pone _ = _ from ih]; rfl
  | swap x y l => exact pmul_left_comm _ _ _
  | trans _ _ h1 h2 => exact h1.trans h2
theorem lprod_fin : ∀ l, ∃ N, Fin0 (lprod l) N
  | [] => ⟨1, pone_Fin0⟩
  | x :: l => by obtain ⟨N, h⟩ := lprod_fin l; exact ⟨_, (cf_Fin0 x).pmul h⟩
theorem lprod_map {p : Int} {m : PS} {a : List Int} {f : List Int → List Int} (hf : ∀ x, Cg p m (cf (f x)) (pmul (cf a) (cf x))) : ∀ l : List (List Int), Cg p m (lprod (l.map f)) (pmul (ppow (cf a) l.length) (lprod l))
  | [] => by show Cg p m pone (pmul pone pone); rw [pone_mul]; exact Cg.refl _
  | x :: l => by
    obtain ⟨N, hN⟩ := lprod_fin (l.map f)
    refine (Cg.mul hN ((cf_Fin0 a).pmul (cf_Fin0 x)) (hf x) (lprod_map hf l)).trans (Cg.of_eqp (Eqp.of_eq ?_))
    exact RE.same [cf a, cf x, ppow (cf a) l.length, lprod l] ((.v 0 * .v 1) * (.v 2 * .v 3)) ((.v 2 * .v 0) * (.v 1 * .v 3)) (by decide) rfl rfl
theorem lprod_unit {p : Int} {m : PS} : ∀ l : List (List Int), (∀ x ∈ l, Uni p m (cf x)) → Uni p m (lprod l)
  | [], _ => ⟨pone, 1, pone_Fin0, by show Cg p m (pmul pone pone) pone; rw [pone_mul]; exact Cg.refl _⟩
  | x :: l, h => by
    obtain ⟨b, N, hb, e⟩ := h x (List.mem_cons_self ..)
    obtain ⟨c, M, hc, e2⟩ := lprod_unit l fun y hy => h y (List.mem_cons_of_mem _ hy)
    obtain ⟨K, hK⟩ := lprod_fin l
    refine ⟨pmul b c, _, hb.pmul hc, ?_⟩
    have h1 := Cg.mul (hc.pmul hK) pone_Fin0 e e2
    rw [pone_mul] at h1
    refine (Cg.of_eqp (Eqp.of_eq ?_)).trans h1
    exact RE.same [b, c, cf x, lprod l] ((.v 0 * .v 1) * (.v 2 * .v 3)) ((.v 0 * .v 2) * (.v 1 * .v 3)) (by decide) rfl rfl
/-- The residues other than 0. -/
def rsd (P d n : Nat) : List Int := mkp d (fun i => ((dig P n i : Nat) : Int))
def rsds (P d : Nat) : List (List Int) := (List.range' 1 (P ^ d - 1)).map (rsd P d)
theorem dig_zero (P e : Nat) : dig P 0 e = 0 := by unfold dig; rw [Nat.zero_div, Nat.zero_mod]
theorem rsd_inj {P d n k : Nat} (hP : 2 ≤ P) (hn : n < P ^ d) (hk : k < P ^ d) (h : rsd P d n = rsd P d k) : n = k := dig_inj hP d hn hk fun e he => by
  have h1 : cf (rsd P d n) e = cf (rsd P d k) e := by rw [h]
  unfold rsd at h1
  rw [mkp_cf, mkp_cf, if_pos he, if_pos he] at h1
  exact Int.ofNat_inj.1 h1
theorem mem_rsds {p : Int} (hp : Pr p) {P d : Nat} (hP : p = P) (x : List Int) : x ∈ rsds P d ↔ Po p x ∧ x ≠ [] ∧ x.length ≤ d := by
  have hp2 := hp.pos
  have hpos : 0 < P ^ d := Nat.pow_pos (by omega)
  unfold rsds
  rw [List.mem_map]
  constructor
  · rintro ⟨n, hn, rfl⟩
    rw [List.mem_range'_1] at hn
    refine ⟨⟨mkp_Tr _ _, Md_mkp (by omega) fun i _ => ⟨Int.natCast_nonneg _, by have h9 : dig P n i < P := Nat.mod_lt _ (by omega); omega⟩⟩, fun e => ?_, mkp_length _ _⟩
    have h0 : n = 0 := dig_inj (by omega : 2 ≤ P) d (by omega) hpos fun i hi => by
      have h1 : cf (rsd P d n) i = 0 := by rw [e]; exact cf_nil i
      unfold rsd at h1
      rw [mkp_cf, if_pos hi] at h1
      rw [dig_zero]; omega
    omega
  · rintro ⟨h1, h2, h3⟩
    obtain ⟨K, hK, hd⟩ := dig_all (p := P) (by omega) d (fun e => (cf x e).toNat) fun e _ => by have := h1.md e; omega
    have e : rsd P d K = x := Tr_ext (mkp_Tr _ _) h1.tr fun i => by
      unfold rsd
      rw [mkp_cf]
      by_cases hi : i < d
      · rw [if_pos hi, hd i hi]; have := h1.md i; omega
      · rw [if_neg hi, cf_ge x i (by omega)]
    refine ⟨K, ?_, e⟩
    rw [List.mem_range'_1]
    have : K ≠ 0 := fun e0 => h2 (by
      rw [← e, e0]
      exact (trim_eq_nil_iff _).2 fun i => by rw [cf_map_range, dig_zero]; simp)
    omega
theorem nodup_rsds {P : Nat} (hP : 2 ≤ P) (d : Nat) : (rsds P d).Nodup := by
  unfold rsds
  have hpos : 0 < P ^ d := Nat.pow_pos (by omega)
  refine List.pairwise_map.2 (List.Pairwise.imp_of_mem (fun {a b} ha hb hne e => hne ?_) (List.nodup_range' (s := 1) (n := P ^ d - 1)))
  rw [List.mem_range'_1] at ha hb
  exact rsd_inj hP (by omega) (by omega) e
theorem len_rsds (P d : Nat) : (rsds P d).length = P ^ d - 1 := by unfold rsds; simp
/-- Euler's theorem modulo an irreducible polynomial. -/
theorem Irr.euler {p : Int} (hp : Pr p) {P : Nat} (hP : p = P) {m a : List Int} (h : Irr p m) (hu : Uni p (cf m) (cf a)) : Cg p (cf m) (ppow (cf a) (P ^ (m.length - 1) - 1)) pone := by
  have hp2 := hp.pos
  have hdeg := h.deg
  have hne := h.mon.1
  have hfin := cf_Fin0 a
  obtain ⟨b, B, hb, hba⟩ := id hu
  obtain ⟨d, hd⟩ : ∃ d, m.length - 1 = d := ⟨_, rfl⟩
  rw [hd]
  have hb' := low_Po (p := p) (by omega) B b
  have hbl := low_eqp (p := p) hb
  have hmem := mem_rsds hp (d := d) hP
  have hback : ∀ x, x ∈ rsds P d → mulmod p a x m ∈ rsds P d := fun x hx => by
    obtain ⟨h1, h2, h3⟩ := (hmem x).1 hx
    have h4 := mulmod_cg hp (a := a) (b := x) h.po hne
    refine (hmem _).2 ⟨mulmod_Po hp h.po hne, fun e => h2 ?_, by have := mulmod_lt (a := a) (b := x) hp h.po hne; omega⟩
    rw [e] at h4
    have h5 : Cg p (cf m) (cf x) (cf []) := hu.cancel hfin (cf_Fin0 x) (cf_Fin0 []) (by rw [cf_nil_zero, pmul_pzero, ← cf_nil_zero]; exact h4.symm)
    exact cg_unique hp h.po hne h1 (Po_nil (by omega)) (by omega) (by simp; omega) h5
  have hperm : ((rsds P d).map (fun x => mulmod p a x m)).Perm (rsds P d) := by
    refine (List.perm_ext_iff_of_nodup ?_ (nodup_rsds (by omega) d)).2 fun y => ⟨fun hy => ?_, fun hy => ?_⟩
    · refine List.pairwise_map.2 (List.Pairwise.imp_of_mem (fun {x y} hx hy hxy e => hxy ?_) (nodup_rsds (P := P) (by omega) d))
      obtain ⟨x1, x2, x3⟩ := (hmem x).1 hx
      obtain ⟨y1, y2, y3⟩ := (hmem y).1 hy
      have h4 := mulmod_cg hp (a := a) (b := x) h.po hne
      have h5 := mulmod_cg hp (a := a) (b := y) h.po hne
      rw [e] at h4
      exact cg_unique hp h.po hne x1 y1 (by omega) (by omega) (hu.cancel hfin (cf_Fin0 x) (cf_Fin0 y) (h4.symm.trans h5))
    · obtain ⟨x, hx, rfl⟩ := List.mem_map.1 hy
      exact hback x hx
    · obtain ⟨y1, y2, y3⟩ := (hmem y).1 hy
      have hq := mulmod_cg hp (a := low p B b) (b := y) h.po hne
      have h6 : Cg p (cf m) (pmul (cf a) (cf (mulmod p (low p B b) y m))) (cf y) := by
        refine (Cg.mul (cf_Fin0 _) hfin (Cg.refl _) hq).trans ?_
        have e1 : pmul (cf a) (pmul (cf (low p B b)) (cf y)) = pmul (pmul (cf (low p B b)) (cf a)) (cf y) := by rw [pmul_left_comm, ← pmul_assoc]
        rw [e1]
        have h7 : Cg p (cf m) (pmul (cf (low p B b)) (cf a)) pone := (Cg.of_eqp (Eqp.mul hbl (Eqp.refl _))).trans hba
        have h8 := Cg.mul (cf_Fin0 y) pone_Fin0 h7 (Cg.refl (p := p) (m := cf m) (cf y))
        rwa [pone_mul] at h8
      refine List.mem_map.2 ⟨mulmod p (low p B b) y m, (hmem _).2 ⟨mulmod_Po hp h.po hne, fun e => y2 ?_, by have := mulmod_lt (a := low p B b) (b := y) hp h.po hne; omega⟩, ?_⟩
      · rw [e, cf_nil_zero, pmul_pzero, ← cf_nil_zero] at h6
        exact (cg_unique hp h.po hne (Po_nil (by omega)) y1 (by simp; omega) (by omega) h6).symm
      · exact cg_unique hp h.po hne (mulmod_Po hp h.po hne) y1 (mulmod_lt hp h.po hne) (by omega) ((mulmod_cg hp h.po hne).trans h6)
  have hmap := lprod_map (p := p) (m := cf m) (a := a) (f := fun x => mulmod p a x m) (fun x => mulmod_cg hp h.po hne) (rsds P d)
  rw [lprod_perm hperm, len_rsds] at hmap
  have hun := lprod_unit (p := p) (m := cf m) (rsds P d) fun x hx => by
    obtain ⟨h1, h2, h3⟩ := (hmem x).1 hx
    exact h.unit hp h1 h2 (by omega)
  obtain ⟨N, hN⟩ := lprod_fin (rsds P d)
  obtain ⟨M, hM⟩ := ppow_fin hfin (P ^ d - 1)
  refine (hun.cancel hN pone_Fin0 hM ?_).symm
  rw [pmul_one, pmul_comm]
  exact hmap
/-- No common divisor. -/
def Cop (p : Int) (m n : PS) : Prop := ∃ u v U V, Fin0 u U ∧ Fin0 v V ∧ Eqp p pone (padd (pmul u m) (pmul v n))
theorem Cop.symm {p : Int} {m n : PS} (h : Cop p m n) : Cop p n m := by
  obtain ⟨u, v, U, V, hu, hv, e⟩ := h
  exact ⟨v, u, V, U, hv, hu, e.trans (Eqp.of_eq (padd_comm _ _))⟩
theorem Cop.one {p : Int} (m : PS) : Cop p m pone := ⟨pzero, pone, 0, 1, pzero_Fin0, pone_Fin0, Eqp.of_eq (by rw [pzero_mul, pone_mul, pzero_padd])⟩
theorem cop_id (u v u' v' m n k : PS) : pmul (padd (pmul u m) (pmul v n)) (padd (pmul u' m) (pmul v' k)) = padd (pmul (padd (pmul u (padd (pmul u' m) (pmul v' k))) (pmul (pmul v n) u')) m) (pmul (pmul v v') (pmul n k)) := by
  have h1 : ((.v 0 * .v 4 + .v 1 * .v 5) * (.v 2 * .v 4 + .v 3 * .v 6) : RE).norm = ((.v 0 * (.v 2 * .v 4 + .v 3 * .v 6) + .v 1 * .v 5 * .v 2) * .v 4 + .v 1 * .v 3 * (.v 5 * .v 6) : RE).norm := by decide +kernel
  have h2 : ((.v 0 * .v 4 + .v 1 * .v 5) * (.v 2 * .v 4 + .v 3 * .v 6) : RE).den (env [u, v, u', v', m, n, k]) = pmul (padd (pmul u m) (pmul v n)) (padd (pmul u' m) (pmul v' k)) := rfl
  have h3 : ((.v 0 * (.v 2 * .v 4 + .v 3 * .v 6) + .v 1 * .v 5 * .v 2) * .v 4 + .v 1 * .v 3 * (.v 5 * .v 6) : RE).den (env [u, v, u', v', m, n, k]) = padd (pmul (padd (pmul u (padd (pmul u' m) (pmul v' k))) (pmul (pmul v n) u')) m) (pmul (pmul v v') (pmul n k)) := rfl
  rw [← h2, ← h3, ← norm_den, ← norm_den, h1]
theorem Cop.mul {p : Int} {m n k : PS} {M N K : Nat} (hm : Fin0 m M) (hn : Fin0 n N) (hk : Fin0 k K) (h : Cop p m n) (h2 : Cop p m k) : Cop p m (pmul n k) := by
  obtain ⟨u, v, U, V, hu, hv, e⟩ := h
  obtain ⟨u', v', U', V', hu', hv', e'⟩ := h2
  have e2 := Eqp.mul e e'
  rw [pone_mul, cop_id] at e2
  exact ⟨_, _, _, _, (hu.pmul ((hu'.pmul hm).padd (hv'.pmul hk))).padd ((hv.pmul hn).pmul hu'), hv.pmul hv', e2⟩
theorem Cop.ppow {p : Int} {m n : PS} {M N : Nat} (hm : Fin0 m M) (hn : Fin0 n N) (h : Cop p m n) : ∀ k, Cop p m (ppow n k)
  | 0 => Cop.one m
  | k + 1 => by obtain ⟨K, hK⟩ := ppow_fin hn k; exact Cop.mul hm hK hn (Cop.ppow hm hn h k) h
/-- A monic divisor of the same degree. -/
theorem mon_same {p : Int} (hp : Pr p) {d a : List Int} (hd : Po p d) (ha : Po p a) (h : Dv p (cf d) (cf a)) (md : Mc d) (ma : Mc a) (hl : d.length = a.length) : a = d := by
  obtain ⟨q, hq, e⟩ := h.quot hp hd ha
  have h1 : q ≠ [] := fun e2 => ma.1 (by rw [e, e2, mulp_nil])
  have h3 := mulp_length hp hq hd h1 md.1
  rw [← e] at h3
  have h4 := List.length_pos_iff.2 md.1
  have hq1 : q.length = 1 := by omega
  match q, hq1, hq, e with
  | [x], _, hq, e =>
    have hx := hq.md 0
    rw [cf_cons_zero] at hx
    have hc : ∀ i, cf a i = x * cf d i % p := fun i => by rw [e]; exact mulp_one_cf p x (fun i => one_cf x i) d i
    have h5 := hc (a.length - 1)
    rw [ma.2, ← hl, md.2, Int.mul_one, Int.emod_eq_of_lt hx.1 hx.2] at h5
    refine ha.ext hd fun i => ?_
    rw [hc i, ← h5, Int.one_mul, Int.emod_eq_of_lt (hd.md i).1 (hd.md i).2]
theorem Irr.cop {p : Int} (hp : Pr p) {P Q : List Int} (h : Irr p P) (k : Irr p Q) (hne : P ≠ Q) : Cop p (cf P) (cf Q) := by
  have B := bez_ok hp h.po k.po (.inl h.mon.1)
  have hd : (bez p P Q).1 = [1] := by
    refine mon_one B.pd ⟨B.ne, B.one⟩ ?_
    have h1 := (B.da.len hp B.pd h.po h.mon.1).2
    have h2 := (B.db.len hp B.pd k.po k.mon.1).2
    by_cases e : 2 ≤ (bez p P Q).1.length
    · have e1 : (bez p P Q).1.length = P.length := by
        by_cases e2 : (bez p P Q).1.length < P.length
        · exact absurd B.da (h.no _ B.pd ⟨B.ne, B.one⟩ e e2)
        · omega
      have e3 : (bez p P Q).1.length = Q.length := by
        by_cases e2 : (bez p P Q).1.length < Q.length
        · exact absurd B.db (k.no _ B.pd ⟨B.ne, B.one⟩ e e2)
        · omega
      exact absurd ((mon_same hp B.pd h.po B.da ⟨B.ne, B.one⟩ h.mon e1).trans (mon_same hp B.pd k.po B.db ⟨B.ne, B.one⟩ k.mon e3).symm) hne
    · omega
  have hid := B.id
  rw [hd, cf_one] at hid
  exact ⟨_, _, _, _, cf_Fin0 _, cf_Fin0 _, hid⟩
/-- Factors with their powers. -/
abbrev Fs := List (List Int × Nat)
def facP (fs : Fs) : PS := fs.foldr (fun x s => pmul (ppow (cf x.1) x.2) s) pone
def phiT (P : Nat) (x : List Int × Nat) : Nat := (P ^ (x.1.length - 1) - 1) * (P ^ (x.1.length - 1)) ^ (x.2 - 1)
def phi (P : Nat) (fs : Fs) : Nat := fs.foldr (fun x s => phiT P x * s) 1
theorem facP_fin : ∀ fs, ∃ N, Fin0 (facP fs) N
  | [] => ⟨1, pone_Fin0⟩
  | x :: l => by
    obtain ⟨N, h⟩ := facP_fin l
    obtain ⟨M, h2⟩ := ppow_fin (cf_Fin0 x.1) x.2
    exact ⟨_, h2.pmul h⟩
theorem facP_cop {p : Int} {m : PS} {M : Nat} (hm : Fin0 m M) : ∀ fs : Fs, (∀ x ∈ fs, Cop p m (cf x.1)) → Cop p m (facP fs)
  | [], _ => Cop.one m
  | x :: l, h => by
    obtain ⟨N, h3⟩ := facP_fin l
    obtain ⟨K, h2⟩ := ppow_fin (cf_Fin0 x.1) x.2
    exact Cop.mul hm h2 h3 (Cop.ppow hm (cf_Fin0 x.1) (h x (List.mem_cons_self ..)) x.2) (facP_cop hm l fun y hy => h y (List.mem_cons_of_mem _ hy))
theorem pow_ge {P : Nat} (hP : 2 ≤ P) : ∀ k, k + 1 ≤ P ^ k
  | 0 => by simp
  | k + 1 => by
    have := pow_ge hP k
    rw [Nat.pow_succ]
    have h2 : P ^ k * 2 ≤ P ^ k * P := Nat.mul_le_mul_left _ hP
    omega
theorem Irr.euler_pow {p : Int} (hp : Pr p) {P : Nat} (hP : p = P) {m a : List Int} (h : Irr p m) (hu : Uni p (cf m) (cf a)) {e : Nat} (he : 1 ≤ e) : Cg p (ppow (cf m) e) (ppow (cf a) (phiT P (m, e))) pone := by
  have hp2 := hp.pos
  have hd := h.deg
  unfold phiT
  rw [← Nat.pow_mul, ppow_mul]
  refine lift_one hp hP (cf_Fin0 m) (h.euler hp hP hu) ?_
  have h1 := pow_ge (P := P) (by omega) (e - 1)
  have h2 : P ^ (e - 1) ≤ P ^ ((m.length - 1) * (e - 1)) := Nat.pow_le_pow_right (by omega) (Nat.le_mul_of_pos_left _ (by omega))
  show e ≤ P ^ ((m.length - 1) * (e - 1))
  omega
/-- Euler's theorem, from the factors. -/
theorem euler_all {p : Int} (hp : Pr p) {P : Nat} (hP : p = P) {a : List Int} : ∀ fs : Fs, (∀ x ∈ fs, Irr p x.1 ∧ 1 ≤ x.2 ∧ Uni p (cf x.1) (cf a)) → fs.Pairwise (fun x y => x.1 ≠ y.1) → Cg p (facP fs) (ppow (cf a) (phi P fs)) pone
  | [], _, _ => by show Cg p pone (ppow (cf a) 1) pone; rw [ppow_one]; exact ⟨padd (cf a) (psmul (-1) pone), _, (cf_Fin0 a).padd (pone_Fin0.psmul (-1)), Eqp.of_eq (RE.same [cf a] (.v 0) (.one + (.v 0 + -.one) * .one) (by decide) rfl rfl)⟩
  | x :: l, h, hd => by
    obtain ⟨h1, h2, h3⟩ := h x (List.mem_cons_self ..)
    have hl : ∀ y ∈ l, Irr p y.1 ∧ 1 ≤ y.2 ∧ Uni p (cf y.1) (cf a) := fun y hy => h y (List.mem_cons_of_mem _ hy)
    obtain ⟨hd1, hd2⟩ := List.pairwise_cons.1 hd
    obtain ⟨N, hN⟩ := facP_fin l
    obtain ⟨K, hK⟩ := ppow_fin (cf_Fin0 x.1) x.2
    have hc : Cop p (facP l) (ppow (cf x.1) x.2) := Cop.ppow hN (cf_Fin0 x.1) (facP_cop (cf_Fin0 x.1) l fun y hy => h1.cop hp (hl y hy).1 (hd1 y hy)).symm x.2
    obtain ⟨u, v, U, V, hu, hv, e⟩ := hc.symm
    have c1 : Cg p (ppow (cf x.1) x.2) (ppow (cf a) (phiT P x * phi P l)) pone := Cg.one_mul (cf_Fin0 a) (h1.euler_pow hp hP h3 h2) _
    have c2 : Cg p (facP l) (ppow (cf a) (phiT P x * phi P l)) pone := by
      rw [Nat.mul_comm]; exact Cg.one_mul (cf_Fin0 a) (euler_all hp hP l hl hd2) _
    exact Cg.two hu hv e c1 c2
end Go.Proofs.Ytojkngdabejjdaa

/- Splitting a polynomial by trial. No program in sight. -/
namespace Go.Proofs.Ytojkngdabejjdaa
/-- The polynomial with a number. -/
def npl (P k : Nat) : List Int := mkp 64 (fun i => ((dig P k i : Nat) : Int))
theorem npl_cf (P k i : Nat) : cf (npl P k) i = if i < 64 then ((dig P k i : Nat) : Int) else 0 := mkp_cf _ _ _
theorem npl_Po {p : Int} (hp : Pr p) {P : Nat} (hP : p = P) (k : Nat) : Po p (npl P k) := by
  have hp2 := hp.pos
  refine ⟨mkp_Tr _ _, Md_mkp (by omega) fun i _ => ⟨Int.natCast_nonneg _, ?_⟩⟩
  have h9 : dig P k i < P := Nat.mod_lt _ (by omega)
  omega
theorem npl_mon {P n k : Nat} (hP : 2 ≤ P) (hn : n ≤ 60) (h1 : P ^ n ≤ k) (h2 : k < 2 * P ^ n) : (npl P k).length = n + 1 ∧ cf (npl P k) n = 1 := by
  have hpos : 0 < P ^ n := Nat.pow_pos (by omega)
  have ht : cf (npl P k) n = 1 := by
    rw [npl_cf, if_pos (by omega)]
    have h3 : k / P ^ n = 1 := Nat.div_eq_of_lt_le (by omega) (by omega)
    unfold dig
    rw [h3, Nat.mod_eq_of_lt (by omega)]; rfl
  have hz : ∀ i, n + 1 ≤ i → cf (npl P k) i = 0 := fun i hi => by
    rw [npl_cf]
    split
    · have h4 : P ^ (n + 1) ≤ P ^ i := Nat.pow_le_pow_right (by omega) hi
      have h5 : P ^ n * 2 ≤ P ^ n * P := Nat.mul_le_mul_left _ hP
      rw [Nat.pow_succ] at h4
      unfold dig
      rw [Nat.div_eq_of_lt (by omega), Nat.zero_mod]; rfl
    · rfl
  have hl := Tr_length_le (a := npl P k) (mkp_Tr _ _) hz
  refine ⟨?_, ht⟩
  by_cases e : (npl P k).length ≤ n
  · rw [cf_ge _ _ e] at ht; omega
  · omega
theorem npl_Mon {P n k : Nat} (hP : 2 ≤ P) (hn : n ≤ 60) (h1 : P ^ n ≤ k) (h2 : k < 2 * P ^ n) : Mc (npl P k) := by
  obtain ⟨h3, h4⟩ := npl_mon hP hn h1 h2
  exact ⟨fun e => by rw [e] at h3; simp at h3, by rw [h3]; exact h4⟩
theorem npl_all {p : Int} (hp : Pr p) {P n : Nat} (hP : p = P) (hn : n ≤ 60) {u : List Int} (hu : Po p u) (hm : Mc u) (hl : u.length = n + 1) : ∃ k, P ^ n ≤ k ∧ k < 2 * P ^ n ∧ npl P k = u := by
  have hp2 := hp.pos
  have hpos : 0 < P ^ n := Nat.pow_pos (by omega)
  obtain ⟨K, hK, hd⟩ := dig_all (p := P) (by omega) (n + 1) (fun e => (cf u e).toNat) fun e _ => by have := hu.md e; omega
  have ht := hd n (by omega)
  have h1 : cf u n = 1 := by have := hm.2; rw [hl] at this; exact this
  rw [h1] at ht
  have hq : K / P ^ n < P := (Nat.div_lt_iff_lt_mul hpos).2 (by rw [Nat.mul_comm, ← Nat.pow_succ]; exact hK)
  unfold dig at ht
  rw [Nat.mod_eq_of_lt hq] at ht
  replace ht : K / P ^ n = 1 := ht
  have h3 := Nat.div_add_mod K (P ^ n)
  have h4 := Nat.mod_lt K hpos
  rw [ht, Nat.mul_one] at h3
  obtain ⟨r, hr⟩ : ∃ r, K % P ^ n = r := ⟨_, rfl⟩
  rw [hr] at h3 h4
  refine ⟨K, by omega, by omega, Tr_ext (mkp_Tr _ _) hu.tr fun i => ?_⟩
  show cf (npl P K) i = _
  rw [npl_cf]
  by_cases hi : i < n + 1
  · rw [if_pos (by omega), hd i hi]; have := hu.md i; omega
  · rw [cf_ge u i (by omega)]
    split
    · have h4 : P ^ (n + 1) ≤ P ^ i := Nat.pow_le_pow_right (by omega) (by omega)
      unfold dig
      rw [Nat.div_eq_of_lt (by omega), Nat.zero_mod]; rfl
    · rfl
/-- A quotient of monic polynomials is monic. -/
theorem mon_quot {p : Int} (hp : Pr p) {a q d : List Int} (hq : Po p q) (hd : Po p d) (ma : Mc a) (md : Mc d) (e : a = mulp p q d) : Mc q ∧ a.length + 1 = q.length + d.length := by
  have h1 : q ≠ [] := fun e2 => ma.1 (by rw [e, e2, mulp_nil])
  have h3 := mulp_length hp hq hd h1 md.1
  rw [← e] at h3
  have h4 := List.length_pos_iff.2 md.1
  have h5 := List.length_pos_iff.2 h1
  refine ⟨⟨h1, ?_⟩, h3⟩
  have hm := ma.2
  obtain ⟨i, hi⟩ : ∃ i, a.length - 1 = i := ⟨_, rfl⟩
  rw [hi] at hm
  have h6 : cf a i = pmul (cf q) (cf d) i % p := by rw [e]; exact mulp_cf q d i
  rw [hm, show i = (q.length - 1) + (d.length - 1) by omega, top_mul (n := q.length - 1) (m := d.length - 1) (fun i hi => cf_ge _ _ (by omega)) (fun i hi => cf_ge _ _ (by omega)), md.2, Int.mul_one, Int.emod_eq_of_lt (hq.md _).1 (hq.md _).2] at h6
  exact h6.symm
def dsum (fs : Fs) : Nat := fs.foldr (fun x s => x.2 * (x.1.length - 1) + s) 0
theorem dsum_snoc (fs : Fs) (x : List Int × Nat) : dsum (fs ++ [x]) = dsum fs + x.2 * (x.1.length - 1) := by
  induction fs with
  | nil => show x.2 * (x.1.length - 1) + 0 = 0 + x.2 * (x.1.length - 1); omega
  | cons y l ih => show y.2 * (y.1.length - 1) + dsum (l ++ [x]) = y.2 * (y.1.length - 1) + dsum l + _; rw [ih]; omega
theorem facP_snoc (fs : Fs) (x : List Int × Nat) : facP (fs ++ [x]) = pmul (facP fs) (ppow (cf x.1) x.2) := by
  induction fs with
  | nil => show pmul _ pone = pmul pone _; rw [pmul_one, pone_mul]
  | cons y l ih => show pmul _ (facP (l ++ [x])) = pmul (pmul _ (facP l)) _; rw [ih, pmul_assoc]
theorem phi_snoc (P : Nat) (fs : Fs) (x : List Int × Nat) : phi P (fs ++ [x]) = phi P fs * phiT P x := by
  induction fs with
  | nil => show phiT P x * 1 = 1 * phiT P x; omega
  | cons y l ih => show phiT P y * phi P (l ++ [x]) = phiT P y * phi P l * phiT P x; rw [ih, Nat.mul_assoc]
/-- While one polynomial is taken out as often as it goes. -/
structure Tak (p : Int) (a0 q : List Int) (e : Nat) (a : List Int) : Prop where
  pa : Po p a
  ma : Mc a
  eq : Eqp p (cf a0) (pmul (ppow (cf q) e) (cf a))
  len : e * (q.length - 1) + (a.length - 1) = a0.length - 1
  zero : e = 0 → a = a0
theorem Tak.start {p : Int} {a q : List Int} (pa : Po p a) (ma : Mc a) : Tak p a q 0 a := ⟨pa, ma, by show Eqp p (cf a) (pmul pone (cf a)); rw [pone_mul]; exact Eqp.refl _, by simp, fun _ => rfl⟩
theorem Tak.step {p : Int} (hp : Pr p) {a0 q a : List Int} {e : Nat} (h : Tak p a0 q e a) (pq : Po p q) (mq : Mc q) (hr : (divp p a q).2 = []) : Tak p a0 q (e + 1) (divp p a q).1 := by
  have hp2 := hp.pos
  obtain ⟨h1, h2, h3, h4⟩ := divp_spec hp h.pa pq mq.1
  rw [hr, cf_nil_zero, padd_pzero] at h4
  have he : a = mulp p (divp p a q).1 q := h.pa.eq_of_eqp (mulp_Po (by omega) _ _) (h4.trans (mulp_eqp p _ _).symm)
  obtain ⟨m1, m2⟩ := mon_quot hp h1 pq h.ma mq he
  have hl := h.len
  have l1 := List.length_pos_iff.2 m1.1
  have l2 := List.length_pos_iff.2 mq.1
  refine ⟨h1, m1, ?_, ?_, fun e0 => absurd e0 (by omega)⟩
  · refine h.eq.trans ((Eqp.mul (Eqp.refl _) h4).trans (Eqp.of_eq ?_))
    show pmul (ppow (cf q) e) (pmul (cf (divp p a q).1) (cf q)) = pmul (pmul (ppow (cf q) e) (cf q)) (cf (divp p a q).1)
    rw [pmul_comm (cf (divp p a q).1), pmul_assoc]
  · rw [Nat.add_mul, Nat.one_mul]; omega
theorem Tak.dv {p : Int} {a0 q a : List Int} {e : Nat} (h : Tak p a0 q e a) : Dv p (cf a) (cf a0) := by
  obtain ⟨M, hM⟩ := ppow_fin (cf_Fin0 q) e
  exact ⟨_, _, hM, h.eq⟩
theorem Tak.dvq {p : Int} {a0 q a : List Int} {e : Nat} (h : Tak p a0 q e a) (he : 1 ≤ e) : Dv p (cf q) (cf a0) := by
  obtain ⟨M, hM⟩ := ppow_fin (cf_Fin0 q) (e - 1)
  refine ⟨_, _, hM.pmul (cf_Fin0 a), h.eq.trans (Eqp.of_eq ?_)⟩
  conv => lhs; rw [show e = e - 1 + 1 by omega]
  show pmul (pmul (ppow (cf q) (e - 1)) (cf q)) (cf a) = pmul (pmul (ppow (cf q) (e - 1)) (cf a)) (cf q)
  rw [pmul_assoc, pmul_assoc, pmul_comm (cf q)]
/-- What the splitting keeps. -/
structure Spl (p : Int) (P : Nat) (m : List Int) (fs : Fs) (a : List Int) (n k : Nat) : Prop where
  pa : Po p a
  ma : Mc a
  fac : Eqp p (cf m) (pmul (facP fs) (cf a))
  irr : ∀ x ∈ fs, Irr p x.1 ∧ 1 ≤ x.2 ∧ ¬ Dv p (cf x.1) (cf a)
  dist : fs.Pairwise (fun x y => x.1 ≠ y.1)
  deg : dsum fs + (a.length - 1) = m.length - 1
  no1 : ∀ u, Po p u → Mc u → 2 ≤ u.length → u.length ≤ n → ¬ Dv p (cf u) (cf a)
  no2 : ∀ j, P ^ n ≤ j → j < k → ¬ Dv p (cf (npl P j)) (cf a)
theorem Spl.start {p : Int} {P : Nat} {m : List Int} (pm : Po p m) (mm : Mc m) : Spl p P m [] m 1 (P ^ 1) :=
  ⟨pm, mm, by show Eqp p (cf m) (pmul pone (cf m)); rw [pone_mul]; exact Eqp.refl _, fun _ h => by simp at h, List.Pairwise.nil, by show 0 + _ = _; omega, fun u _ _ h1 h2 => by omega, fun j h1 h2 => by omega⟩
theorem Spl.skip {p : Int} {P : Nat} {m a : List Int} {fs : Fs} {n k : Nat} (h : Spl p P m fs a n k) (hn : ¬ Dv p (cf (npl P k)) (cf a)) : Spl p P m fs a n (k + 1) :=
  ⟨h.pa, h.ma, h.fac, h.irr, h.dist, h.deg, h.no1, fun j h1 h2 => by
    by_cases e : j = k
    · rw [e]; exact hn
    · exact h.no2 j h1 (by omega)⟩
theorem Spl.take {p : Int} {P : Nat} {m a a' q : List Int} {fs : Fs} {n k e : Nat} (h : Spl p P m fs a n k) (hn1 : 1 ≤ n) (hq : npl P k = q) (hql : q.length = n + 1) (hM : Mc q) (hPo : Po p q) (ht : Tak p a q e a') (he : 1 ≤ e) (hno : ¬ Dv p (cf q) (cf a')) : Spl p P m (fs ++ [(q, e)]) a' n (k + 1) := by
  refine ⟨ht.pa, ht.ma, ?_, fun x hx => ?_, ?_, ?_, fun u h1 h2 h3 h4 h5 => h.no1 u h1 h2 h3 h4 (h5.trans' ht.dv), fun j h1 h2 h3 => ?_⟩
  · rw [facP_snoc, pmul_assoc]
    exact h.fac.trans (Eqp.mul (Eqp.refl _) ht.eq)
  · rcases List.mem_append.1 hx with hx | hx
    · obtain ⟨h1, h2, h3⟩ := h.irr x hx
      exact ⟨h1, h2, fun h4 => h3 (h4.trans' ht.dv)⟩
    · rw [List.mem_singleton] at hx
      subst hx
      exact ⟨⟨hPo, hM, (show 2 ≤ q.length by omega), fun u h1 h2 h3 h4 h5 => h.no1 u h1 h2 h3 (by have h6 : u.length < q.length := h4; omega) (h5.trans' (ht.dvq he))⟩, he, hno⟩
  · rw [List.pairwise_append]
    refine ⟨h.dist, List.pairwise_singleton _ _, fun x hx y hy => ?_⟩
    rw [List.mem_singleton] at hy
    subst hy
    intro e1
    exact (h.irr x hx).2.2 (by rw [e1]; exact ht.dvq he)
  · rw [dsum_snoc]
    have h1 := h.deg
    have h2 := ht.len
    show dsum fs + e * (q.length - 1) + _ = _
    omega
  · by_cases e1 : j = k
    · rw [e1, hq] at h3; exact hno h3
    · exact h.no2 j h1 (by omega) (h3.trans' ht.dv)
theorem Spl.next {p : Int} (hp : Pr p) {P : Nat} (hP : p = P) {m a : List Int} {fs : Fs} {n k : Nat} (h : Spl p P m fs a n k) (hn : n ≤ 60) (hk : 2 * P ^ n ≤ k) : Spl p P m fs a (n + 1) (P ^ (n + 1)) :=
  ⟨h.pa, h.ma, h.fac, h.irr, h.dist, h.deg, fun u h1 h2 h3 h4 => by
    by_cases e : u.length ≤ n
    · exact h.no1 u h1 h2 h3 e
    · obtain ⟨j, h5, h6, rfl⟩ := npl_all hp hP hn h1 h2 (by omega : u.length = n + 1)
      exact h.no2 j h5 (by omega), fun j h1 h2 => by omega⟩
/-- Where nothing more is to be tried, what is left is irreducible. -/
theorem Spl.last {p : Int} (hp : Pr p) {P : Nat} {m a : List Int} {fs : Fs} {n k : Nat} (h : Spl p P m fs a n k) (hl : a.length - 1 < 2 * n) (h2 : 2 ≤ a.length) : Irr p a := by
  refine ⟨h.pa, h.ma, h2, fun u h3 h4 h5 h6 h7 => ?_⟩
  obtain ⟨v, hv, e⟩ := h7.quot hp h3 h.pa
  obtain ⟨mv, hlen⟩ := mon_quot hp hv h3 h.ma h4 e
  by_cases e1 : u.length ≤ n
  · exact h.no1 u h3 h4 h5 e1 h7
  · refine h.no1 v hv mv (by omega) (by omega) ⟨_, _, cf_Fin0 u, ?_⟩
    conv => lhs; rw [e]
    refine (mulp_eqp p v u).trans (Eqp.of_eq (pmul_comm _ _))
/-- A whole splitting. -/
structure Facd (p : Int) (m : List Int) (fs : Fs) : Prop where
  fac : Eqp p (cf m) (facP fs)
  irr : ∀ x ∈ fs, Irr p x.1 ∧ 1 ≤ x.2
  dist : fs.Pairwise (fun x y => x.1 ≠ y.1)
  deg : dsum fs = m.length - 1
theorem Spl.done_one {p : Int} {P : Nat} {m a : List Int} {fs : Fs} {n k : Nat} (h : Spl p P m fs a n k) (h2 : a.length < 2) : Facd p m fs := by
  have h3 := mon_one h.pa h.ma h2
  refine ⟨?_, fun x hx => ⟨(h.irr x hx).1, (h.irr x hx).2.1⟩, h.dist, by have := h.deg; omega⟩
  have := h.fac
  rwa [h3, cf_one, pmul_one] at this
theorem Spl.done {p : Int} (hp : Pr p) {P : Nat} {m a : List Int} {fs : Fs} {n k : Nat} (h : Spl p P m fs a n k) (hl : a.length - 1 < 2 * n) (h2 : 2 ≤ a.length) : Facd p m (fs ++ [(a, 1)]) := by
  refine ⟨?_, fun x hx => ?_, ?_, ?_⟩
  · rw [facP_snoc]; show Eqp p (cf m) (pmul (facP fs) (ppow (cf a) 1)); rw [ppow_one]; exact h.fac
  · rcases List.mem_append.1 hx with hx | hx
    · exact ⟨(h.irr x hx).1, (h.irr x hx).2.1⟩
    · rw [List.mem_singleton] at hx; subst hx; exact ⟨h.last hp hl h2, Nat.le_refl _⟩
  · rw [List.pairwise_append]
    refine ⟨h.dist, List.pairwise_singleton _ _, fun x hx y hy => ?_⟩
    rw [List.mem_singleton] at hy
    subst hy
    intro e1
    exact (h.irr x hx).2.2 (by rw [e1]; exact Dv.refl _)
  · rw [dsum_snoc]; have := h.deg; show dsum fs + 1 * (a.length - 1) = _; omega
/-- The last factor found is not what is left. -/
theorem Spl.ne {p : Int} {P : Nat} {m a : List Int} {fs : Fs} {n k : Nat} (h : Spl p P m fs a n k) {x : List Int × Nat} (hx : x ∈ fs) : x.1 ≠ a := fun e => (h.irr x hx).2.2 (by rw [e]; exact Dv.refl _)
theorem dv_facP {p : Int} : ∀ {fs : Fs} {x : List Int × Nat}, x ∈ fs → 1 ≤ x.2 → Dv p (cf x.1) (facP fs)
  | y :: l, x, hx, h1 => by
    obtain ⟨N, hN⟩ := facP_fin l
    rcases List.mem_cons.1 hx with rfl | hx
    · obtain ⟨M, hM⟩ := ppow_fin (cf_Fin0 x.1) (x.2 - 1)
      refine ⟨_, _, hM.pmul hN, Eqp.of_eq ?_⟩
      show pmul (ppow (cf x.1) x.2) (facP l) = _
      conv => lhs; rw [show x.2 = x.2 - 1 + 1 by omega]
      show pmul (pmul (ppow (cf x.1) (x.2 - 1)) (cf x.1)) (facP l) = _
      rw [pmul_assoc, pmul_assoc, pmul_comm (cf x.1)]
    · obtain ⟨M, hM⟩ := ppow_fin (cf_Fin0 y.1) y.2
      obtain ⟨q, K, hq, e⟩ := dv_facP hx h1
      refine ⟨_, _, hM.pmul hq, ?_⟩
      rw [pmul_assoc]
      exact Eqp.mul (Eqp.refl _) e
theorem Cg.down {p : Int} {m d f g : PS} (h : Cg p m f g) (hd : Dv p d m) : Cg p d f g := by
  obtain ⟨x, N, hx, e⟩ := h
  obtain ⟨q, M, hq, e2⟩ := hd
  refine ⟨pmul x q, _, hx.pmul hq, e.trans (Eqp.add (Eqp.refl _) ?_)⟩
  rw [pmul_assoc]
  exact Eqp.mul (Eqp.refl _) e2
theorem Facd.euler {p : Int} (hp : Pr p) {P : Nat} (hP : p = P) {m a : List Int} {fs : Fs} (h : Facd p m fs) (hu : Uni p (cf m) (cf a)) : Cg p (cf m) (ppow (cf a) (phi P fs)) pone := by
  refine Cg.modulus h.fac.symm (euler_all hp hP fs (fun x hx => ⟨(h.irr x hx).1, (h.irr x hx).2, ?_⟩) h.dist)
  obtain ⟨b, N, hb, e⟩ := hu
  obtain ⟨q, M, hq, e2⟩ := dv_facP (p := p) hx (h.irr x hx).2
  exact ⟨b, N, hb, e.down ⟨q, M, hq, h.fac.trans e2⟩⟩
theorem phiT_bound {P : Nat} (hP : 2 ≤ P) {x : List Int × Nat} (h1 : 2 ≤ x.1.length) (h2 : 1 ≤ x.2) : 1 ≤ phiT P x ∧ phiT P x ≤ P ^ (x.2 * (x.1.length - 1)) := by
  unfold phiT
  obtain ⟨d, hd⟩ : ∃ d, x.1.length - 1 = d := ⟨_, rfl⟩
  rw [hd]
  have hN : 2 ≤ P ^ d := by
    have := Nat.pow_le_pow_right (n := P) (by omega) (show 1 ≤ d by omega)
    rw [Nat.pow_one] at this; omega
  obtain ⟨N, hNe⟩ : ∃ N, P ^ d = N := ⟨_, rfl⟩
  rw [Nat.mul_comm x.2 d, Nat.pow_mul, hNe]
  rw [hNe] at hN
  have h3 : 0 < N ^ (x.2 - 1) := Nat.pow_pos (by omega)
  refine ⟨Nat.mul_pos (by omega) h3, ?_⟩
  rw [show N ^ x.2 = N * N ^ (x.2 - 1) by rw [Nat.mul_comm, ← Nat.pow_succ]; congr 1; omega]
  exact Nat.mul_le_mul_right _ (by omega)
theorem phi_bound {p : Int} {P : Nat} (hP : 2 ≤ P) : ∀ fs : Fs, (∀ x ∈ fs, Irr p x.1 ∧ 1 ≤ x.2) → 1 ≤ phi P fs ∧ phi P fs ≤ P ^ dsum fs
  | [], _ => ⟨Nat.le_refl _, by show 1 ≤ P ^ 0; simp⟩
  | x :: l, h => by
    obtain ⟨h1, h2⟩ := phi_bound hP l fun y hy => h y (List.mem_cons_of_mem _ hy)
    obtain ⟨h3, h4⟩ := h x (List.mem_cons_self ..)
    obtain ⟨h5, h6⟩ := phiT_bound hP (x := x) h3.deg h4
    show 1 ≤ phiT P x * phi P l ∧ phiT P x * phi P l ≤ P ^ (x.2 * (x.1.length - 1) + dsum l)
    rw [Nat.pow_add]
    exact ⟨Nat.mul_pos h5 h1, Nat.mul_le_mul h6 h2⟩
/-- The order of a unit. -/
structure Ord (p : Int) (m a : List Int) (o : Nat) : Prop where
  one : 1 ≤ o
  is : Cg p (cf m) (ppow (cf a) o) pone
  min : ∀ k, 1 ≤ k → k < o → ¬ Cg p (cf m) (ppow (cf a) k) pone
theorem Ord.dvd {p : Int} {m a : List Int} {o : Nat} (h : Ord p m a o) (k : Nat) : Cg p (cf m) (ppow (cf a) k) pone ↔ o ∣ k := ord_dvd (cf_Fin0 a) h.one h.is h.min k
theorem Facd.ord {p : Int} (hp : Pr p) {P : Nat} (hP : p = P) {m a : List Int} {fs : Fs} (h : Facd p m fs) (hu : Uni p (cf m) (cf a)) : ∃ o, Ord p m a o ∧ o ≤ phi P fs ∧ OI o (phi P fs) (phi P fs) 2 := by
  have hp2 := hp.pos
  have h1 := phi_bound (p := p) (P := P) (by omega) fs h.irr
  have h2 := h.euler hp hP hu
  have key : ∀ n, (1 ≤ n ∧ Cg p (cf m) (ppow (cf a) n) pone) → ∃ o, Ord p m a o ∧ o ≤ n := by
    intro n
    induction n using Nat.strongRecOn with
    | ind n ih =>
      intro hn
      by_cases he : ∃ k, k < n ∧ 1 ≤ k ∧ Cg p (cf m) (ppow (cf a) k) pone
      · obtain ⟨k, hk, hq⟩ := he
        obtain ⟨o, ho, hl⟩ := ih k hk hq
        exact ⟨o, ho, by omega⟩
      · exact ⟨n, ⟨hn.1, hn.2, fun k h3 h4 h5 => he ⟨k, h4, h3, h5⟩⟩, Nat.le_refl _⟩
  obtain ⟨o, ho, hl⟩ := key _ ⟨h1.1, h2⟩
  exact ⟨o, ho, hl, OI.start ho.one h1.1 ((ho.dvd _).1 h2)⟩
end Go.Proofs.Ytojkngdabejjdaa

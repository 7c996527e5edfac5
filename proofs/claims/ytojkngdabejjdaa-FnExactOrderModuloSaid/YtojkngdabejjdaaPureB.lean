/- Several texts in one: Rst, Spr. -/
import Derived.Test.YtojkngdabejjdaaPure
set_option linter.unusedVariables false
set_option linter.unusedSimpArgs false
/- The polynomial with two rests, in two ways of reckoning. No program in sight. -/
namespace Go.Proofs.Ytojkngdabejjdaa

theorem Eqp.lin4 {p : Int} {A B L R L2 R2 L3 R3 L4 R4 : PS} (c c2 c3 c4 : PS) (h : Eqp p L R) (h2 : Eqp p L2 R2) (h3 : Eqp p L3 R3) (h4 : Eqp p L4 R4)
    (e : padd A (psmul (-1) B) = padd (padd (padd (pmul c (padd L (psmul (-1) R))) (pmul c2 (padd L2 (psmul (-1) R2)))) (pmul c3 (padd L3 (psmul (-1) R3)))) (pmul c4 (padd L4 (psmul (-1) R4)))) : Eqp p A B :=
  Eqp.of_psub (e ▸ Eqp.add_zero (Eqp.add_zero (Eqp.add_zero (Eqp.mul_zero c h.psub_zero) (Eqp.mul_zero c2 h2.psub_zero)) (Eqp.mul_zero c3 h3.psub_zero)) (Eqp.mul_zero c4 h4.psub_zero))

/-- As the program reckons. -/
def twoI (p : Int) (a x b y : List Int) : List Int :=
  rst p (addp p (mulp p (mulp p (bez p x y).2.2 y) a) (mulp p (mulp p (bez p x y).2.1 x) b) 1) (mulp p x y)
/-- As the reference reckons. -/
def twoStep (p : Int) (a x b y : List Int) : List Int :=
  mulmod p (rst p (bez p (rst p x y) y).2.1 y) (rst p (addp p b (rst p a x) (-1)) y) y
def twoS (p : Int) (a x b y : List Int) : List Int := addp p (rst p a x) (mulp p x (twoStep p a x b y)) 1

theorem twoS_len {p : Int} (hp : Pr p) {a x b y : List Int} (ha : Po p a) (hx : Po p x) (hy : Po p y) (nx : x ≠ []) (ny : y ≠ []) :
    (mulp p x (twoStep p a x b y)).length + 2 ≤ x.length + y.length ∧ (twoS p a x b y).length + 2 ≤ x.length + y.length := by
  have hs : Po p (twoStep p a x b y) := mulmod_Po hp hy ny
  have hl : (twoStep p a x b y).length < y.length := mulmod_lt hp hy ny
  have h1 := rst_lt hp ha hx nx
  have hxl := List.length_pos_iff.2 nx
  have hm : (mulp p x (twoStep p a x b y)).length + 2 ≤ x.length + y.length := by
    rcases mulp_len hp hx hs with h | ⟨_, _, h⟩
    · rw [h]; simp; omega
    · omega
  refine ⟨hm, ?_⟩
  have h2 := addp_length p (rst p a x) (mulp p x (twoStep p a x b y)) 1
  unfold twoS
  omega

theorem two_eq {p : Int} (hp : Pr p) {a x b y : List Int} (ha : Po p a) (hx : Po p x) (hb : Po p b) (hy : Po p y) (nx : x ≠ []) (ny : y ≠ []) (h1 : (bez p x y).1 = [1]) :
    twoI p a x b y = twoS p a x b y := by
  have hp2 := hp.pos
  have k := bez_ok hp hx hy (Or.inl nx)
  rw [h1] at k
  have e1 := k.id
  rw [cf_one] at e1
  have hpU := k.pu
  have nxy : mulp p x y ≠ [] := fun e => by
    have h5 := mulp_length hp hx hy nx ny
    have h6 := List.length_pos_iff.2 nx
    have h7 := List.length_pos_iff.2 ny
    rw [e] at h5; simp only [List.length_nil] at h5; omega
  have hlen := (twoS_len (b := b) hp ha hx hy nx ny).2
  have hmul := mulp_length hp hx hy nx ny
  refine rst_of_cg hp (addp_Po (by omega) _ _ _) (mulp_Po (by omega) _ _) nxy (addp_Po (by omega) _ _ _) (show (twoS p a x b y).length < _ by omega) ?_
  -- the parts
  obtain ⟨g1, G1, f1, c1⟩ := rst_cg hp ha hx nx
  obtain ⟨g2, G2, f2, c2⟩ := mulmod_cg (a := rst p (bez p (rst p x y) y).2.1 y) (b := rst p (addp p b (rst p a x) (-1)) y) hp hy ny
  obtain ⟨g3, G3, f3, c3⟩ := rst_cg hp hpU hy ny
  obtain ⟨g4, G4, f4, c4⟩ := rst_cg hp (addp_Po (p := p) (by omega) b (rst p a x) (-1)) hy ny
  replace c4 := (addp_eqp p b (rst p a x) (-1)).symm.trans c4
  have hs : mulmod p (rst p (bez p (rst p x y) y).2.1 y) (rst p (addp p b (rst p a x) (-1)) y) y = twoStep p a x b y := rfl
  rw [hs] at c2
  rw [inv_eq hp hx hy ny h1] at c2
  have eL : Eqp p (cf (addp p (mulp p (mulp p (bez p x y).2.2 y) a) (mulp p (mulp p (bez p x y).2.1 x) b) 1)) (padd (pmul (pmul (cf (bez p x y).2.2) (cf y)) (cf a)) (pmul (pmul (cf (bez p x y).2.1) (cf x)) (cf b))) := by
    refine (addp_eqp p _ _ 1).trans ?_
    rw [psmul_one]
    exact Eqp.add ((mulp_eqp p _ _).trans (Eqp.mul (mulp_eqp p _ _) (Eqp.refl _))) ((mulp_eqp p _ _).trans (Eqp.mul (mulp_eqp p _ _) (Eqp.refl _)))
  have eR : Eqp p (cf (twoS p a x b y)) (padd (cf (rst p a x)) (pmul (cf x) (cf (twoStep p a x b y)))) := by
    refine (addp_eqp p _ _ 1).trans ?_
    rw [psmul_one]
    exact Eqp.add (Eqp.refl _) (mulp_eqp p _ _)
  refine Cg.trans (Cg.of_eqp eL) (Cg.trans ?_ (Cg.of_eqp eR.symm))
  refine Cg.modulus (mulp_eqp p x y).symm ?_
  have e1' := e1
  have fU := cf_Fin0 (bez p x y).2.1
  have fV := cf_Fin0 (bez p x y).2.2
  have fs := cf_Fin0 (twoStep p a x b y)
  have fo := cf_Fin0 (rst p a x)
  have fa := cf_Fin0 a
  have fb := cf_Fin0 b
  have fX := cf_Fin0 x
  have fY := cf_Fin0 y
  generalize cf (bez p x y).2.1 = U at *
  generalize cf (bez p x y).2.2 = V at *
  generalize cf (twoStep p a x b y) = S at *
  generalize cf (rst p a x) = W at *
  generalize cf (rst p (bez p x y).2.1 y) = I at *
  generalize cf (rst p (addp p b (rst p a x) (-1)) y) = B at *
  generalize cf a = A at *
  generalize cf b = C at *
  generalize cf x = X at *
  generalize cf y = Y at *
  refine Cg.symm (Cg.two fU fV e1' ?_ ?_)
  · refine ⟨padd S (padd (pmul U A) (psmul (-1) (padd g1 (pmul U C)))), _, fs.padd ((fU.pmul fa).padd ((f1.padd (fU.pmul fb)).psmul _)), ?_⟩
    refine Eqp.lin2 A (psmul (-1) pone) e1 c1 ?_
    exact RE.same [U, V, S, W, A, C, X, Y, g1]
      (.v 3 + .v 6 * .v 2 + -(.v 1 * .v 7 * .v 4 + .v 0 * .v 6 * .v 5 + (.v 2 + (.v 0 * .v 4 + -(.v 8 + .v 0 * .v 5))) * .v 6))
      (.v 4 * (.one + -(.v 0 * .v 6 + .v 1 * .v 7)) + (-.one) * (.v 4 + -(.v 3 + .v 8 * .v 6))) (by decide) rfl rfl
  · refine ⟨padd (padd (pmul V W) (psmul (-1) (pmul V A))) (padd (pmul X g2) (psmul (-1) (pmul X (padd (pmul U g4) (padd (pmul g3 (padd C (psmul (-1) W))) (psmul (-1) (pmul (pmul g3 g4) Y))))))), _, ((fV.pmul fo).padd ((fV.pmul fa).psmul _)).padd ((fX.pmul f2).padd ((fX.pmul ((fU.pmul f4).padd ((f3.pmul (fb.padd (fo.psmul _))).padd (((f3.pmul f4).pmul fY).psmul _)))).psmul _)), ?_⟩
    refine Eqp.lin4 W X (psmul (-1) (pmul X (padd C (padd (psmul (-1) W) (psmul (-1) (pmul g4 Y)))))) (psmul (-1) (pmul X I)) e1 c2 c3 c4 ?_
    exact RE.same [U, V, S, W, A, C, X, Y, g2, g3, g4, I, B]
      (.v 3 + .v 6 * .v 2 + -(.v 1 * .v 7 * .v 4 + .v 0 * .v 6 * .v 5 + (.v 1 * .v 3 + -(.v 1 * .v 4) + (.v 6 * .v 8 + -(.v 6 * (.v 0 * .v 10 + (.v 9 * (.v 5 + -.v 3) + -(.v 9 * .v 10 * .v 7)))))) * .v 7))
      (.v 3 * (.one + -(.v 0 * .v 6 + .v 1 * .v 7)) + .v 6 * (.v 2 + -(.v 11 * .v 12 + .v 8 * .v 7)) + (-(.v 6 * (.v 5 + (-.v 3 + -(.v 10 * .v 7))))) * (.v 0 + -(.v 11 + .v 9 * .v 7)) + (-(.v 6 * .v 11)) * ((.v 5 + -.v 3) + -(.v 12 + .v 10 * .v 7))) (by decide) rfl rfl
end Go.Proofs.Ytojkngdabejjdaa

/- T replaced by a power of T. No program in sight. -/
namespace Go.Proofs.Ytojkngdabejjdaa

def sprd (xs : List Int) (q : Nat) : List Int := if xs = [] then [] else (List.range ((xs.length - 1) * q + 1)).map fun n => if n % q = 0 then cf xs (n / q) else 0
theorem sprd_length {xs : List Int} (h : xs ≠ []) (q : Nat) : (sprd xs q).length = (xs.length - 1) * q + 1 := by
  unfold sprd; rw [if_neg h]; simp
theorem sprd_nil (q : Nat) : sprd [] q = [] := by unfold sprd; rw [if_pos rfl]
theorem sprd_cf (xs : List Int) {q : Nat} (hq : 0 < q) (n : Nat) : cf (sprd xs q) n = if n % q = 0 then cf xs (n / q) else 0 := by
  unfold sprd
  by_cases h : xs = []
  · rw [if_pos h, h, cf_nil, cf_nil]; split <;> rfl
  · rw [if_neg h, cf_map_range]
    by_cases h1 : n < (xs.length - 1) * q + 1
    · rw [if_pos h1]
    · rw [if_neg h1]
      by_cases h2 : n % q = 0
      · rw [if_pos h2, cf_ge]
        have hl := List.length_pos_iff.2 h
        have h3 : n = q * (n / q) := by have := Nat.div_add_mod n q; omega
        refine Classical.byContradiction fun h4 => ?_
        have h5 : n / q ≤ xs.length - 1 := by omega
        have h6 : q * (n / q) ≤ q * (xs.length - 1) := Nat.mul_le_mul_left _ h5
        rw [Nat.mul_comm q (xs.length - 1)] at h6
        omega
      · rw [if_neg h2]
theorem sprd_at (xs : List Int) {q : Nat} (hq : 0 < q) (k : Nat) : cf (sprd xs q) (k * q) = cf xs k := by
  rw [sprd_cf xs hq, if_pos (Nat.mul_mod_left k q), Nat.mul_div_cancel k hq]
theorem sprd_Po {p : Int} (hp : 0 < p) {xs : List Int} (h : Po p xs) {q : Nat} (hq : 0 < q) : Po p (sprd xs q) := by
  refine ⟨?_, fun n => ?_⟩
  · by_cases hn : xs = []
    · rw [hn, sprd_nil]; exact Tr_nil
    · right
      rw [sprd_length hn, Nat.add_sub_cancel, sprd_at xs hq]
      rcases h.tr with h1 | h1
      · exact absurd (List.length_eq_zero_iff.1 h1) hn
      · exact h1
  · rw [sprd_cf xs hq]; split
    · exact h.md _
    · omega
theorem sprd_one {xs : List Int} (ht : Tr xs) : sprd xs 1 = xs := by
  by_cases hn : xs = []
  · rw [hn, sprd_nil]
  · refine list_ext_cf (by rw [sprd_length hn]; have := List.length_pos_iff.2 hn; omega) fun i => ?_
    rw [sprd_cf xs (by omega), if_pos (Nat.mod_one i), Nat.div_one]
theorem sprd_letter {q : Nat} (hq : 0 < q) (n : Nat) : cf (sprd [0, 1] q) n = if n = q then 1 else 0 := by
  rw [sprd_cf _ hq, letter_cf]
  unfold mono
  by_cases h : n % q = 0
  · rw [if_pos h]
    by_cases e : n = q
    · rw [if_pos e, e, Nat.div_self hq, if_pos rfl]
    · rw [if_neg e, if_neg]
      intro h2
      have := Nat.div_add_mod n q
      rw [h2, h] at this; omega
  · rw [if_neg h, if_neg]
    intro e; rw [e, Nat.mod_self] at h; exact h rfl
/-- The bracket: T to a power less T. -/
def brk (p : Int) (q : Nat) : List Int := addp p (sprd [0, 1] q) [0, 1] (-1)
theorem brk_length {p : Int} (hp : 2 ≤ p) {q : Nat} (hq : 2 ≤ q) : (brk p q).length = q + 1 := by
  have h1 := addp_length p (sprd [0, 1] q) [0, 1] (-1)
  have h2 : (sprd [0, 1] q).length = q + 1 := by rw [sprd_length (by simp)]; simp
  have h3 : cf (brk p q) q = 1 := by
    unfold brk
    rw [addp_cf, sprd_letter (by omega), if_pos rfl, letter_cf]
    unfold mono
    rw [if_neg (by omega)]
    simp; exact Int.emod_eq_of_lt (by omega) (by omega)
  unfold brk at h3 ⊢
  have h4 : ([0, 1] : List Int).length = 2 := rfl
  by_cases h5 : (addp p (sprd [0, 1] q) [0, 1] (-1)).length ≤ q
  · rw [cf_ge _ _ h5] at h3; omega
  · omega
end Go.Proofs.Ytojkngdabejjdaa

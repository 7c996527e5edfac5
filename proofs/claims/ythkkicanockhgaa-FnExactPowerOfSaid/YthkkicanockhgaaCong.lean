/- Congruence modulo a polynomial; rests of sums and products. No program in sight. -/
import Derived.Test.YthkkicanockhgaaBez
namespace Go.Proofs.Ythkkicanockhgaa

/-- Congruent modulo p and m, with a factor of finitely many coefficients. -/
def Cg (p : Int) (m f g : PS) : Prop := ∃ (h : PS) (N : Nat), Fin0 h N ∧ Eqp p f (padd g (pmul h m))
theorem Fin0.le {f : PS} {n m : Nat} (h : Fin0 f n) (hl : n ≤ m) : Fin0 f m := fun i hi => h i (by omega)
theorem Fin0.padd {f g : PS} {n m : Nat} (hf : Fin0 f n) (hg : Fin0 g m) : Fin0 (padd f g) (max n m) := fun i hi => by
  show f i + g i = 0
  rw [hf i (by omega), hg i (by omega)]; rfl
theorem Fin0.psmul {f : PS} {n : Nat} (c : Int) (hf : Fin0 f n) : Fin0 (psmul c f) n := fun i hi => by
  show c * f i = 0
  rw [hf i hi, Int.mul_zero]
theorem Fin0.pmul {f g : PS} {n m : Nat} (hf : Fin0 f n) (hg : Fin0 g m) : Fin0 (pmul f g) (n + m) := fun i hi => hf.mul hg i (by omega)
theorem pzero_Fin0 : Fin0 pzero 0 := fun _ _ => rfl
theorem Cg.refl {p : Int} {m : PS} (f : PS) : Cg p m f f := ⟨pzero, 0, pzero_Fin0, by rw [pzero_mul]; exact Eqp.of_eq (by funext n; show f n = f n + 0; omega)⟩
theorem Cg.of_eqp {p : Int} {m f g : PS} (h : Eqp p f g) : Cg p m f g := ⟨pzero, 0, pzero_Fin0, by
  rw [pzero_mul]; exact h.trans (Eqp.of_eq (by funext n; show g n = g n + 0; omega))⟩
theorem Cg.symm {p : Int} {m f g : PS} (h : Cg p m f g) : Cg p m g f := by
  obtain ⟨k, N, hN, hk⟩ := h
  refine ⟨psmul (-1) k, N, hN.psmul _, ?_⟩
  rw [psmul_pmul]
  intro n
  have h1 : f n % p = (g n + pmul k m n) % p := hk n
  show g n % p = (f n + -1 * pmul k m n) % p
  have h2 := emod_add_congr (p := p) h1 (show (-1 * pmul k m n) % p = (-1 * pmul k m n) % p from rfl)
  rw [h2]; congr 1; omega
theorem Cg.trans {p : Int} {m f g k : PS} (h : Cg p m f g) (h2 : Cg p m g k) : Cg p m f k := by
  obtain ⟨x, N, hN, hx⟩ := h
  obtain ⟨y, M, hM, hy⟩ := h2
  refine ⟨padd x y, _, hN.padd hM, ?_⟩
  rw [padd_mul]
  intro n
  have h1 : f n % p = (g n + pmul x m n) % p := hx n
  have h2 : g n % p = (k n + pmul y m n) % p := hy n
  show f n % p = (k n + (pmul x m n + pmul y m n)) % p
  rw [h1, emod_add_congr h2 rfl]; congr 1; omega
theorem Cg.add {p : Int} {m f g f' g' : PS} (h : Cg p m f f') (k : Cg p m g g') : Cg p m (padd f g) (padd f' g') := by
  obtain ⟨x, N, hN, hx⟩ := h
  obtain ⟨y, M, hM, hy⟩ := k
  refine ⟨padd x y, _, hN.padd hM, (hx.add hy).trans (Eqp.of_eq ?_)⟩
  rw [padd_mul]
  funext n
  show f' n + pmul x m n + (g' n + pmul y m n) = f' n + g' n + (pmul x m n + pmul y m n)
  omega
theorem Cg.smul {p c : Int} {m f f' : PS} (h : Cg p m f f') : Cg p m (psmul c f) (psmul c f') := by
  obtain ⟨x, N, hN, hx⟩ := h
  refine ⟨psmul c x, N, hN.psmul _, hx.smul.trans (Eqp.of_eq ?_)⟩
  rw [psmul_pmul]
  funext n
  show c * (f' n + pmul x m n) = c * f' n + c * pmul x m n
  rw [Int.mul_add]
/-- A product: the one factor is a polynomial. -/
theorem Cg.mul_right {p : Int} {m f f' g : PS} {M : Nat} (hg : Fin0 g M) (h : Cg p m f f') : Cg p m (pmul f g) (pmul f' g) := by
  obtain ⟨x, N, hN, hx⟩ := h
  refine ⟨pmul x g, N + M, hN.pmul hg, (hx.mul (Eqp.refl g)).trans (Eqp.of_eq ?_)⟩
  rw [padd_mul, pmul_assoc, pmul_assoc, pmul_comm m g]
theorem Cg.mul {p : Int} {m f g f' g' : PS} {A B : Nat} (hg : Fin0 g A) (hf : Fin0 f' B) (h : Cg p m f f') (k : Cg p m g g') : Cg p m (pmul f g) (pmul f' g') := by
  refine (h.mul_right hg).trans ?_
  rw [pmul_comm f' g, pmul_comm f' g']
  exact k.mul_right hf

/-- The rest. -/
def rst (p : Int) (a m : List Int) : List Int := (divp p a m).2
theorem rst_cg {p : Int} (hp : Pr p) {a m : List Int} (ha : Po p a) (hm : Po p m) (hne : m ≠ []) : Cg p (cf m) (cf a) (cf (rst p a m)) := by
  obtain ⟨_, _, _, h⟩ := divp_spec hp ha hm hne
  exact ⟨cf (divp p a m).1, _, cf_Fin0 _, h.trans (Eqp.of_eq (padd_comm _ _))⟩
theorem rst_Po {p : Int} (hp : Pr p) {a m : List Int} (ha : Po p a) (hm : Po p m) (hne : m ≠ []) : Po p (rst p a m) := (divp_spec hp ha hm hne).2.1
theorem rst_lt {p : Int} (hp : Pr p) {a m : List Int} (ha : Po p a) (hm : Po p m) (hne : m ≠ []) : (rst p a m).length < m.length := (divp_spec hp ha hm hne).2.2.1

/-- A series of finitely many coefficients, as a polynomial. -/
def low (p : Int) (N : Nat) (f : PS) : List Int := mkp N (fun i => f i % p)
theorem low_Po {p : Int} (hp : 0 < p) (N : Nat) (f : PS) : Po p (low p N f) :=
  ⟨mkp_Tr _ _, fun i => by
    unfold low; rw [mkp_cf]; split
    · exact ⟨Int.emod_nonneg _ (by omega), Int.emod_lt_of_pos _ hp⟩
    · exact ⟨Int.le_refl _, hp⟩⟩
theorem low_eqp {p : Int} {N : Nat} {f : PS} (h : Fin0 f N) : Eqp p (cf (low p N f)) f := fun i => by
  unfold low; rw [mkp_cf]; split
  · exact Int.emod_emod_of_dvd _ (Int.dvd_refl p)
  · rw [h i (by omega)]

/-- Two short polynomials that are congruent are the same. -/
theorem cg_unique {p : Int} (hp : Pr p) {m r r' : List Int} (hm : Po p m) (hne : m ≠ []) (hr : Po p r) (hr' : Po p r') (hl : r.length < m.length) (hl' : r'.length < m.length)
    (h : Cg p (cf m) (cf r) (cf r')) : r = r' := by
  obtain ⟨k, N, hN, hk⟩ := h
  have hp2 := hp.pos
  have e : Eqp p (padd (pmul (cf []) (cf m)) (cf r)) (padd (pmul (cf (low p N k)) (cf m)) (cf r')) := by
    refine Eqp.trans (Eqp.of_eq ?_) (hk.trans ((Eqp.of_eq (padd_comm _ _)).trans (Eqp.add (Eqp.mul (low_eqp hN).symm (Eqp.refl _)) (Eqp.refl _))))
    have : cf ([] : List Int) = pzero := by funext n; exact cf_nil n
    rw [this, pzero_mul]; funext n; show 0 + cf r n = cf r n; omega
  exact (divp_unique hp hm hne ⟨(by exact (low_Po (p := p) (by omega) 0 pzero).1), fun i => by rw [cf_nil]; exact ⟨Int.le_refl _, by omega⟩⟩ hr (low_Po (by omega) N k) hr' hl hl' e).2
/-- The rest of what is congruent. -/
theorem rst_of_cg {p : Int} (hp : Pr p) {a m r : List Int} (ha : Po p a) (hm : Po p m) (hne : m ≠ []) (hr : Po p r) (hl : r.length < m.length) (h : Cg p (cf m) (cf a) (cf r)) : rst p a m = r :=
  cg_unique hp hm hne (rst_Po hp ha hm hne) hr (rst_lt hp ha hm hne) hl ((rst_cg hp ha hm hne).symm.trans h)
theorem rst_congr {p : Int} (hp : Pr p) {a b m : List Int} (ha : Po p a) (hb : Po p b) (hm : Po p m) (hne : m ≠ []) (h : Cg p (cf m) (cf a) (cf b)) : rst p a m = rst p b m :=
  rst_of_cg hp ha hm hne (rst_Po hp hb hm hne) (rst_lt hp hb hm hne) (h.trans (rst_cg hp hb hm hne))
/-- The product modulo m. -/
def mulmod (p : Int) (a b m : List Int) : List Int := rst p (mulp p a b) m
theorem mulmod_cg {p : Int} (hp : Pr p) {a b m : List Int} (hm : Po p m) (hne : m ≠ []) : Cg p (cf m) (cf (mulmod p a b m)) (pmul (cf a) (cf b)) := by
  have hp2 := hp.pos
  exact (rst_cg hp (mulp_Po (by omega) a b) hm hne).symm.trans (Cg.of_eqp (mulp_eqp p a b))
end Go.Proofs.Ythkkicanockhgaa

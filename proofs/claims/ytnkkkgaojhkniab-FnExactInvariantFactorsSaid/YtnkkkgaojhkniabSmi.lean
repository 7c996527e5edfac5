/- The way to the diagonal form of a matrix of polynomials, as the program goes it. No program in sight. -/
import Derived.Test.YtnkkkgaojhkniabMin
import Derived.Test.YtnkkkgaojhkniabPure
set_option linter.unusedVariables false
set_option linter.unusedSimpArgs false
namespace Go.Proofs.Ytnkkkgaojhkniab

abbrev MxL := Nat → Nat → List Int
def cfm (M : MxL) : Nat → Nat → PS := fun i j => cf (M i j)
def swpM (k x y : Nat) (M : MxL) : MxL := fun i j => M (swp k x i) (swp k y j)
def rowPh (p : Int) (n k : Nat) (M : MxL) : MxL := fun i j =>
  if k < i ∧ i < n ∧ k ≤ j ∧ j < n then addp p (M i j) (mulp p (divp p (M i k) (M k k)).1 (M k j)) (-1) else M i j
def colPh (p : Int) (n k : Nat) (M : MxL) : MxL := fun i j =>
  if k < j ∧ j < n ∧ k ≤ i ∧ i < n then addp p (M i j) (mulp p (divp p (M k j) (M k k)).1 (M i k)) (-1) else M i j
def clrM (p : Int) (n k : Nat) (M : MxL) : MxL := colPh p n k (rowPh p n k M)
def spoil (p : Int) (n k bad : Nat) (M : MxL) : MxL := fun i j => if i = k ∧ k ≤ j ∧ j < n then addp p (M k j) (M bad j) 1 else M i j
def Clean (p : Int) (n k : Nat) (M : MxL) : Prop := (∀ i, k < i → i < n → (divp p (M i k) (M k k)).2 = []) ∧ ∀ j, k < j → j < n → (divp p (M k j) (M k k)).2 = []

/-- What the way keeps ahead of stage k. -/
structure Sm (p : Int) (n : Nat) (A : Nat → Nat → PS) (k : Nat) (M : MxL) : Prop where
  po : ∀ i j, i < n → j < n → Po p (M i j)
  eqv : Eqv p n A (cfm M)
  bnd : Bnd p (n + 1) k n (cfm M)
  low : ∀ i, i < k → ∀ j, j < n → j ≠ i → M i j = [] ∧ M j i = []
  piv : ∀ i, i < k → M i i ≠ []
  div : ∀ i, i < k → ∀ a b, Part i n a → Part i n b → Dv p (cf (M i i)) (cf (M a b))
theorem Sm.len {p : Int} {n : Nat} {A : Nat → Nat → PS} {k : Nat} {M : MxL} (h : Sm p n A k M) {i j : Nat} (hi : Part k n i) (hj : Part k n j) : (M i j).length ≤ n + 1 :=
  Ln.len (h.po i j hi.2 hj.2) (h.bnd.entry hi hj)

theorem swp_lt {k x i : Nat} (hx : k ≤ x) (h : i < k) : swp k x i = i := by unfold swp; rw [if_neg (by omega), if_neg (by omega)]
theorem swp_part {k x n i : Nat} (hx : Part k n x) (hi : Part k n i) : Part k n (swp k x i) := by unfold swp Part at *; split <;> (try split) <;> omega
theorem swp_ge {k x n s i : Nat} (hs : s ≤ k) (hx : Part k n x) (hi : Part s n i) : Part s n (swp k x i) := by unfold swp Part at *; split <;> (try split) <;> omega
theorem swp_self (k i : Nat) : swp k k i = i := by
  unfold swp; split
  · omega
  · rfl
theorem Sm.swap {p : Int} {n : Nat} {A : Nat → Nat → PS} {k : Nat} {M : MxL} (h : Sm p n A k M) {x y : Nat} (hx : Part k n x) (hy : Part k n y) : Sm p n A k (swpM k x y M) := by
  have hk : k < n := by unfold Part at hx; omega
  refine ⟨fun i j hi hj => ?_, ?_, ?_, fun i hi j hj hne => ?_, fun i hi => ?_, fun i hi a b ha hb => ?_⟩
  · exact h.po _ _ (swp_S (S := (· < n)) hk hx.2 hi) (swp_S (S := (· < n)) hk hy.2 hj)
  · exact (h.eqv.step (.rowswap k x hk hx.2 (b := fun i j => cf (M (swp k x i) j)) fun i j _ _ => Eqp.refl _)).step (.colswap k y hk hy.2 fun i j _ _ => Eqp.refl _)
  · have h1 := Bnd.rows (b := fun i j => cf (M (swp k x i) j)) (RowSwap.rows (S := Part k n) (k := k) (l := x) (fun i j _ _ => Eqp.refl _) ⟨Nat.le_refl k, hk⟩ hx rfl) h.bnd
    exact (Bnd.rows (b := fun i j => cf (M (swp k x j) (swp k y i))) (RowSwap.rows (S := Part k n) (k := k) (l := y) (fun i j _ _ => Eqp.refl _) ⟨Nat.le_refl k, hk⟩ hy rfl) h1.flip).flip
  · show M (swp k x i) (swp k y j) = [] ∧ M (swp k x j) (swp k y i) = []
    rw [swp_lt hx.1 hi, swp_lt hy.1 hi]
    have hyj : swp k y j ≠ i := fun e => hne (by have := swp_swp k y j; rw [e, swp_lt hy.1 hi] at this; exact this.symm)
    have hxj : swp k x j ≠ i := fun e => hne (by have := swp_swp k x j; rw [e, swp_lt hx.1 hi] at this; exact this.symm)
    exact ⟨(h.low i hi _ (swp_S (S := (· < n)) hk hy.2 hj) hyj).1, (h.low i hi _ (swp_S (S := (· < n)) hk hx.2 hj) hxj).2⟩
  · show M (swp k x i) (swp k y i) ≠ []
    rw [swp_lt hx.1 hi, swp_lt hy.1 hi]; exact h.piv i hi
  · show Dv p (cf (M (swp k x i) (swp k y i))) (cf (M (swp k x a) (swp k y b)))
    rw [swp_lt hx.1 hi, swp_lt hy.1 hi]; exact h.div i hi _ _ (swp_ge (by omega) hx ha) (swp_ge (by omega) hy hb)

/-- The part ahead of stage k is left alone, and what stands behind it is put together of what stood there. -/
theorem less_eqp {p : Int} (hp : Pr p) (a q b : List Int) : Eqp p (cf (addp p a (mulp p q b) (-1))) (padd (cf a) (pmul (psmul (-1) (cf q)) (cf b))) :=
  (addp_eqp p a _ (-1)).trans (Eqp.add (Eqp.refl _) ((Eqp.smul (mulp_eqp p q b)).trans (Eqp.of_eq (psmul_pmul _ _ _).symm)))
theorem less_nil {p : Int} (hp : Pr p) {a : List Int} (ha : Po p a) (q : List Int) : addp p a (mulp p q []) (-1) = a := by
  have hp2 := hp.pos
  refine (addp_Po (by omega) _ _ _).ext ha fun i => ?_
  rw [addp_cf, mulp_nil_right, cf_nil, Int.mul_zero, Int.add_zero, Int.emod_eq_of_lt (ha.md i).1 (ha.md i).2]
theorem less_rest {p : Int} (hp : Pr p) {a b : List Int} (ha : Po p a) (hb : Po p b) (hne : b ≠ []) : addp p a (mulp p (divp p a b).1 b) (-1) = (divp p a b).2 := by
  have hp2 := hp.pos
  obtain ⟨h1, h2, h3, h4⟩ := divp_spec hp ha hb hne
  refine (addp_Po (by omega) _ _ _).eq_of_eqp h2 ((less_eqp hp a _ b).trans ?_)
  refine (Eqp.add h4 (Eqp.refl _)).trans (Eqp.of_eq ?_)
  rw [psmul_pmul]
  funext n; show _ + _ + -1 * _ = _; omega
theorem rowPh_pos {p : Int} {n k : Nat} {M : MxL} {i j : Nat} (h : k < i ∧ i < n ∧ k ≤ j ∧ j < n) : rowPh p n k M i j = addp p (M i j) (mulp p (divp p (M i k) (M k k)).1 (M k j)) (-1) := if_pos h
theorem rowPh_neg {p : Int} {n k : Nat} {M : MxL} {i j : Nat} (h : ¬ (k < i ∧ i < n ∧ k ≤ j ∧ j < n)) : rowPh p n k M i j = M i j := if_neg h
theorem rowPh_row {p : Int} {n k : Nat} {M : MxL} {j : Nat} : rowPh p n k M k j = M k j := if_neg (by omega)
theorem colPh_pos {p : Int} {n k : Nat} {M : MxL} {i j : Nat} (h : k < j ∧ j < n ∧ k ≤ i ∧ i < n) : colPh p n k M i j = addp p (M i j) (mulp p (divp p (M k j) (M k k)).1 (M i k)) (-1) := if_pos h
theorem colPh_neg {p : Int} {n k : Nat} {M : MxL} {i j : Nat} (h : ¬ (k < j ∧ j < n ∧ k ≤ i ∧ i < n)) : colPh p n k M i j = M i j := if_neg h
theorem colPh_flip (p : Int) (n k : Nat) (M : MxL) : colPh p n k M = fun i j => rowPh p n k (fun a b => M b a) j i := rfl
theorem Eqv.flip {p : Int} {n : Nat} {a b : Nat → Nat → PS} (h : Eqv p n a b) : Eqv p n (fun i j => a j i) (fun i j => b j i) := by
  induction h with
  | refl => exact .refl
  | step _ e ih =>
    refine ih.step ?_
    cases e with
    | rowadd k q hk hq h => exact .coladd k q hk hq h
    | coladd k q hk hq h => exact .rowadd k q hk hq h
    | rowswap k l hk hl h => exact .colswap k l hk hl h
    | colswap k l hk hl h => exact .rowswap k l hk hl h
/-- Rows and columns exchanged. -/
theorem Sm.flip {p : Int} {n : Nat} {A : Nat → Nat → PS} {k : Nat} {M : MxL} (h : Sm p n A k M) : Sm p n (fun i j => A j i) k (fun i j => M j i) :=
  ⟨fun i j hi hj => h.po j i hj hi, h.eqv.flip, h.bnd.flip, fun i hi j hj hne => ⟨(h.low i hi j hj hne).2, (h.low i hi j hj hne).1⟩, h.piv, fun i hi a b ha hb => h.div i hi b a hb ha⟩
theorem Sm.row {p : Int} (hp : Pr p) {n : Nat} {A : Nat → Nat → PS} {k : Nat} {M : MxL} (h : Sm p n A k M) (hk : k < n) (hne : M k k ≠ []) : Sm p n A k (rowPh p n k M) := by
  have hp2 := hp.pos
  have hkk : Part k n k := ⟨Nat.le_refl k, hk⟩
  have hpk := h.po k k hk hk
  have hl0 : 0 < (M k k).length := List.length_pos_iff.2 hne
  have hrow : RowAdd p (· < n) k (fun i => if k < i then psmul (-1) (cf (divp p (M i k) (M k k)).1) else pzero) (cfm M) (cfm (rowPh p n k M)) := fun i j hi hj => by
    show Eqp p (cf (rowPh p n k M i j)) (if i = k then cf (M k j) else padd (cf (M i j)) (pmul (if k < i then psmul (-1) (cf (divp p (M i k) (M k k)).1) else pzero) (cf (M k j))))
    by_cases e : i = k
    · subst e; rw [if_pos rfl, rowPh_row]; exact Eqp.refl _
    · rw [if_neg e]
      by_cases h1 : k < i
      · rw [if_pos h1]
        by_cases h2 : k ≤ j
        · rw [rowPh_pos ⟨h1, hi, h2, hj⟩]; exact less_eqp hp _ _ _
        · rw [rowPh_neg (by omega), (h.low j (by omega) k hk (by omega)).2, cf_nil_zero, pmul_pzero, padd_pzero]; exact Eqp.refl _
      · rw [if_neg h1, rowPh_neg (by omega), pzero_mul, padd_pzero]; exact Eqp.refl _
  have hpo : ∀ i j, i < n → j < n → Po p (rowPh p n k M i j) := fun i j hi hj => by
    by_cases e : k < i ∧ i < n ∧ k ≤ j ∧ j < n
    · rw [rowPh_pos e]; exact addp_Po (by omega) _ _ _
    · rw [rowPh_neg e]; exact h.po i j hi hj
  refine ⟨hpo, ?_, ?_, fun i hi j hj hji => ?_, fun i hi => ?_, fun i hi a b ha hb => ?_⟩
  · refine h.eqv.step (.rowadd k _ hk (fun i hi => ?_) hrow)
    show ∃ N, Fin0 (if k < i then psmul (-1) (cf (divp p (M i k) (M k k)).1) else pzero) N
    split
    · exact ⟨_, (cf_Fin0 _).psmul _⟩
    · exact ⟨0, pzero_Fin0⟩
  · refine Bnd.clearR hp (a := cfm M) (d := (M k k).length - 1) (M := 4 * n + 8) hk h.bnd (fun i j hi hj => hrow i j hi.2 hj.2) ?_ ?_ (fun i h1 h2 => ?_) fun i j hi hj => ?_
    · show cf (M k k) ((M k k).length - 1) % p ≠ 0
      have := hpk.lead hne
      rw [Int.emod_eq_of_lt (hpk.md _).1 (hpk.md _).2]; omega
    · exact (Ln.of_list p (M k k)).le (by omega)
    · show Ln p _ (cf (rowPh p n k M i k))
      rw [rowPh_pos ⟨h1, h2, Nat.le_refl k, hk⟩, less_rest hp (h.po i k h2 hk) hpk hne]
      have := (divp_spec hp (h.po i k h2 hk) hpk hne).2.2.1
      exact (Ln.of_list p _).le (by omega)
    · show Ln p _ (cf (rowPh p n k M i j))
      refine (Ln.of_list p _).le ?_
      by_cases e : k < i ∧ i < n ∧ k ≤ j ∧ j < n
      · rw [rowPh_pos e]
        have l1 := addp_length p (M i j) (mulp p (divp p (M i k) (M k k)).1 (M k j)) (-1)
        have l2 : (mulp p (divp p (M i k) (M k k)).1 (M k j)).length ≤ (divp p (M i k) (M k k)).1.length + (M k j).length := mkp_length _ _
        have l3 := divp_quot_le p (M i k) (M k k)
        have l4 := h.len hi hkk
        have l5 := h.len hkk hj
        have l6 := h.len hi hj
        omega
      · rw [rowPh_neg e]; have := h.len hi hj; omega
  · rw [rowPh_neg (by omega), rowPh_neg (by omega)]; exact h.low i hi j hj hji
  · rw [rowPh_neg (by omega)]; exact h.piv i hi
  · rw [rowPh_neg (by omega : ¬ (k < i ∧ i < n ∧ k ≤ i ∧ i < n))]
    by_cases e : k < a ∧ a < n ∧ k ≤ b ∧ b < n
    · rw [rowPh_pos e]
      refine Dv.congr ?_ (less_eqp hp _ _ _)
      exact (h.div i hi a b ha hb).add ((h.div i hi k b ⟨by omega, hk⟩ hb).mul ((cf_Fin0 _).psmul _))
    · rw [rowPh_neg e]; exact h.div i hi a b ha hb
theorem Sm.col {p : Int} (hp : Pr p) {n : Nat} {A : Nat → Nat → PS} {k : Nat} {M : MxL} (h : Sm p n A k M) (hk : k < n) (hne : M k k ≠ []) : Sm p n A k (colPh p n k M) :=
  (h.flip.row hp hk hne).flip
theorem Sm.clear {p : Int} (hp : Pr p) {n : Nat} {A : Nat → Nat → PS} {k : Nat} {M : MxL} (h : Sm p n A k M) (hk : k < n) (hne : M k k ≠ []) : Sm p n A k (clrM p n k M) :=
  (h.row hp hk hne).col hp hk (by rw [rowPh_row]; exact hne)
theorem clr_corner (p : Int) (n k : Nat) (M : MxL) : clrM p n k M k k = M k k := by
  unfold clrM; rw [colPh_neg (by omega), rowPh_row]
theorem Sm.clr_col {p : Int} (hp : Pr p) {n : Nat} {A : Nat → Nat → PS} {k : Nat} {M : MxL} (h : Sm p n A k M) (hk : k < n) (hne : M k k ≠ []) {i : Nat} (h1 : k < i) (h2 : i < n) : clrM p n k M i k = (divp p (M i k) (M k k)).2 := by
  unfold clrM; rw [colPh_neg (by omega), rowPh_pos ⟨h1, h2, Nat.le_refl k, hk⟩, less_rest hp (h.po i k h2 hk) (h.po k k hk hk) hne]
theorem Sm.clr_row {p : Int} (hp : Pr p) {n : Nat} {A : Nat → Nat → PS} {k : Nat} {M : MxL} (h : Sm p n A k M) (hk : k < n) (hne : M k k ≠ []) {j : Nat} (h1 : k < j) (h2 : j < n) : clrM p n k M k j = (divp p (M k j) (M k k)).2 := by
  unfold clrM; rw [colPh_pos ⟨h1, h2, Nat.le_refl k, hk⟩, rowPh_row, rowPh_row, less_rest hp (h.po k j hk h2) (h.po k k hk hk) hne]
theorem addp_nil_one {p : Int} (hp : Pr p) {a : List Int} (ha : Po p a) : addp p [] a 1 = a := by
  have hp2 := hp.pos
  refine (addp_Po (by omega) _ _ _).ext ha fun i => ?_
  rw [addp_cf, cf_nil, Int.zero_add, Int.one_mul, Int.emod_eq_of_lt (ha.md i).1 (ha.md i).2]
theorem addp_one_nil {p : Int} (hp : Pr p) {a : List Int} (ha : Po p a) : addp p a [] 1 = a := by
  have hp2 := hp.pos
  refine (addp_Po (by omega) _ _ _).ext ha fun i => ?_
  rw [addp_cf, cf_nil, Int.mul_zero, Int.add_zero, Int.emod_eq_of_lt (ha.md i).1 (ha.md i).2]
theorem Sm.spoil {p : Int} (hp : Pr p) {n : Nat} {A : Nat → Nat → PS} {k : Nat} {M : MxL} (h : Sm p n A k M) {bad : Nat} (hk : k < bad) (hb : bad < n) : Sm p n A k (spoil p n k bad M) := by
  have hp2 := hp.pos
  have hkn : k < n := by omega
  have hone : ∀ a b : List Int, Eqp p (cf (addp p a b 1)) (padd (cf a) (pmul pone (cf b))) := fun a b => (addp_eqp p a b 1).trans (Eqp.of_eq (by rw [psmul_one, pone_mul]))
  have hpos : ∀ {i j}, (i = k ∧ k ≤ j ∧ j < n) → Go.Proofs.Ytnkkkgaojhkniab.spoil p n k bad M i j = addp p (M k j) (M bad j) 1 := fun h => if_pos h
  have hneg : ∀ {i j}, ¬ (i = k ∧ k ≤ j ∧ j < n) → Go.Proofs.Ytnkkkgaojhkniab.spoil p n k bad M i j = M i j := fun h => if_neg h
  have hrow : RowAdd p (· < n) bad (fun i => if i = k then pone else pzero) (cfm M) (cfm (Go.Proofs.Ytnkkkgaojhkniab.spoil p n k bad M)) := fun i j hi hj => by
    show Eqp p (cf (Go.Proofs.Ytnkkkgaojhkniab.spoil p n k bad M i j)) (if i = bad then cf (M bad j) else padd (cf (M i j)) (pmul (if i = k then pone else pzero) (cf (M bad j))))
    by_cases e : i = k
    · subst e
      rw [if_neg (by omega), if_pos rfl]
      by_cases h2 : i ≤ j
      · rw [hpos ⟨rfl, h2, hj⟩]; exact hone _ _
      · rw [hneg (by omega), (h.low j (by omega) bad hb (by omega)).2, cf_nil_zero, pmul_pzero, padd_pzero]; exact Eqp.refl _
    · rw [hneg (by omega), if_neg e]
      by_cases e2 : i = bad
      · subst e2; rw [if_pos rfl]; exact Eqp.refl _
      · rw [if_neg e2, pzero_mul, padd_pzero]; exact Eqp.refl _
  refine ⟨fun i j hi hj => ?_, ?_, ?_, fun i hi j hj hji => ?_, fun i hi => ?_, fun i hi a b ha hb' => ?_⟩
  · by_cases e : i = k ∧ k ≤ j ∧ j < n
    · rw [hpos e]; exact addp_Po (by omega) _ _ _
    · rw [hneg e]; exact h.po i j hi hj
  · refine h.eqv.step (.rowadd bad _ hb (fun i hi => ?_) hrow)
    show ∃ N, Fin0 (if i = k then pone else pzero) N
    split
    · exact ⟨1, pone_Fin0⟩
    · exact ⟨0, pzero_Fin0⟩
  · refine Bnd.rows (a := cfm M) (fun i hi => ?_) h.bnd
    by_cases e : i = k
    · subst e
      refine ⟨[(pone, i), (pone, bad)], fun x hx => ?_, fun c hc => ?_⟩
      · rcases List.mem_cons.1 hx with rfl | hx
        · exact ⟨rfl, hi⟩
        · rw [List.mem_singleton.1 hx]; exact ⟨rfl, by omega, hb⟩
      · rw [lcomb_two]
        show Eqp p (cf (Go.Proofs.Ytnkkkgaojhkniab.spoil p n i bad M i c)) (padd (cf (M i c)) (pmul pone (cf (M bad c))))
        rw [hpos ⟨rfl, hc⟩]; exact hone _ _
    · refine ⟨[(pone, i)], fun x hx => ?_, fun c hc => ?_⟩
      · rw [List.mem_singleton.1 hx]; exact ⟨rfl, hi⟩
      · rw [lcomb_one]
        show Eqp p (cf (Go.Proofs.Ytnkkkgaojhkniab.spoil p n k bad M i c)) (cf (M i c))
        rw [hneg (by omega)]; exact Eqp.refl _
  · rw [hneg (by omega), hneg (by omega)]; exact h.low i hi j hj hji
  · rw [hneg (by omega)]; exact h.piv i hi
  · rw [hneg (by omega : ¬ (i = k ∧ k ≤ i ∧ i < n))]
    by_cases e : a = k ∧ k ≤ b ∧ b < n
    · rw [hpos e]
      exact ((h.div i hi k b ⟨by omega, hkn⟩ hb').add ((h.div i hi bad b ⟨by omega, hb⟩ hb').mul pone_Fin0)).congr (hone _ _)
    · rw [hneg e]; exact h.div i hi a b ha hb'
/-- The stage is done. -/
theorem Sm.next {p : Int} (hp : Pr p) {n : Nat} {A : Nat → Nat → PS} {k : Nat} {M : MxL} (h : Sm p n A k M) (hk : k < n) (hne : M k k ≠ []) (h1 : ∀ i, k < i → i < n → M i k = []) (h2 : ∀ j, k < j → j < n → M k j = [])
    (h3 : ∀ i j, k < i → i < n → k < j → j < n → (divp p (M i j) (M k k)).2 = []) : Sm p n A (k + 1) M := by
  refine ⟨h.po, h.eqv, h.bnd.more, fun i hi j hj hji => ?_, fun i hi => ?_, fun i hi a b ha hb => ?_⟩
  · by_cases e : i = k
    · subst e
      by_cases e2 : j < i
      · exact ⟨(h.low j e2 i hk (by omega)).2, (h.low j e2 i hk (by omega)).1⟩
      · exact ⟨h2 j (by omega) hj, h1 j (by omega) hj⟩
    · exact h.low i (by omega) j hj hji
  · by_cases e : i = k
    · subst e; exact hne
    · exact h.piv i (by omega)
  · by_cases e : i = k
    · subst e
      have ha' : a = i ∨ i < a := by have := ha.1; omega
      have hb' : b = i ∨ i < b := by have := hb.1; omega
      rcases ha' with rfl | ha'
      · rcases hb' with rfl | hb'
        · exact Dv.refl _
        · rw [h2 b hb' hb.2, cf_nil_zero]; exact Dv.zero _
      · rcases hb' with rfl | hb'
        · rw [h1 a ha' ha.2, cf_nil_zero]; exact Dv.zero _
        · obtain ⟨_, _, _, e4⟩ := divp_spec hp (h.po a b ha.2 hb.2) (h.po i i hk hk) hne
          rw [h3 a b ha' ha.2 hb' hb.2, cf_nil_zero, padd_pzero] at e4
          exact ⟨_, _, cf_Fin0 _, e4⟩
    · exact h.div i (by omega) a b ha hb
/-- Something is left. -/
theorem Sm.alive {p : Int} {n : Nat} {A : Nat → Nat → PS} {k : Nat} {M : MxL} (h : Sm p n A k M) (hk : k < n) (hA : ¬ AllMinK (Dv p pzero) (· < n) n A) : ∃ i j, Part k n i ∧ Part k n j ∧ M i j ≠ [] :=
  Classical.byContradiction fun hno => hA (h.eqv.dv.2 (zero_row hk fun j hj => by
    have : M k j = [] := by
      by_cases e : j < k
      · exact (h.low j e k hk (by omega)).2
      · exact Classical.byContradiction fun hn => hno ⟨k, j, ⟨Nat.le_refl k, hk⟩, ⟨by omega, hj⟩, hn⟩
    show Eqp p (cf (M k j)) pzero
    rw [this, cf_nil_zero]; exact Eqp.refl _))

/-! ## the rounds of a stage come to an end -/
def Has (n k : Nat) (M : MxL) (L : Nat) : Prop := ∃ i j, Part k n i ∧ Part k n j ∧ M i j ≠ [] ∧ (M i j).length ≤ L
structure Small (n k : Nat) (M : MxL) (x y : Nat) : Prop where
  hx : Part k n x
  hy : Part k n y
  ne : M x y ≠ []
  least : ∀ i j, Part k n i → Part k n j → M i j ≠ [] → (M x y).length ≤ (M i j).length
  first : (x = k ∧ y = k) ∨ M k k = [] ∨ (M x y).length < (M k k).length
/-- How far the stage is: m falls from round to round. -/
def Far (p : Int) (n k m : Nat) (M : MxL) : Prop :=
  (∃ L, m = 2 * L + 1 ∧ Has n k M L) ∨ ∃ L, m = 2 * L ∧ (M k k).length = L ∧ M k k ≠ [] ∧ ∃ j, k < j ∧ j < n ∧ (divp p (M k j) (M k k)).2 ≠ []
theorem Sm.far {p : Int} {n : Nat} {A : Nat → Nat → PS} {k : Nat} {M : MxL} (h : Sm p n A k M) (hk : k < n) (hA : ¬ AllMinK (Dv p pzero) (· < n) n A) : Far p n k (2 * (n + 1) + 1) M := by
  obtain ⟨i, j, hi, hj, hne⟩ := h.alive hk hA
  exact .inl ⟨n + 1, rfl, i, j, hi, hj, hne, h.len hi hj⟩
theorem swpM_corner (k x y : Nat) (M : MxL) : swpM k x y M k k = M x y := by unfold swpM swp; rw [if_pos rfl, if_pos rfl]
theorem swpM_self (k : Nat) (M : MxL) : swpM k k k M = M := by funext i j; unfold swpM; rw [swp_self, swp_self]
/-- A round that leaves rests. -/
theorem Far.rests {p : Int} (hp : Pr p) {n : Nat} {A : Nat → Nat → PS} {k m : Nat} {M : MxL} (h : Sm p n A k M) (hk : k < n) (hf : Far p n k m M) {x y : Nat} (hs : Small n k M x y) (hc : ¬ Clean p n k (swpM k x y M)) :
    ∃ m', m' < m ∧ Far p n k m' (clrM p n k (swpM k x y M)) := by
  have hS := h.swap hs.hx hs.hy
  have hne : swpM k x y M k k ≠ [] := by rw [swpM_corner]; exact hs.ne
  have hl0 : 0 < (M x y).length := List.length_pos_iff.2 hs.ne
  have hkk : Part k n k := ⟨Nat.le_refl k, hk⟩
  have hhas : Has n k (clrM p n k (swpM k x y M)) ((M x y).length - 1) := by
    rcases Classical.not_and_iff_not_or_not.1 hc with h1 | h1
    · obtain ⟨i, h1⟩ := Classical.not_forall.1 h1
      obtain ⟨hi, h1⟩ := Classical.not_forall.1 h1
      obtain ⟨hi2, h1⟩ := Classical.not_forall.1 h1
      refine ⟨i, k, ⟨by omega, hi2⟩, hkk, ?_, ?_⟩
      · rw [hS.clr_col hp hk hne hi hi2]; exact h1
      · rw [hS.clr_col hp hk hne hi hi2]
        have := (divp_spec hp (hS.po i k hi2 hk) (hS.po k k hk hk) hne).2.2.1
        rw [swpM_corner] at this ⊢; omega
    · obtain ⟨j, h1⟩ := Classical.not_forall.1 h1
      obtain ⟨hj, h1⟩ := Classical.not_forall.1 h1
      obtain ⟨hj2, h1⟩ := Classical.not_forall.1 h1
      refine ⟨k, j, hkk, ⟨by omega, hj2⟩, ?_, ?_⟩
      · rw [hS.clr_row hp hk hne hj hj2]; exact h1
      · rw [hS.clr_row hp hk hne hj hj2]
        have := (divp_spec hp (hS.po k j hk hj2) (hS.po k k hk hk) hne).2.2.1
        rw [swpM_corner] at this ⊢; omega
  refine ⟨2 * ((M x y).length - 1) + 1, ?_, .inl ⟨_, rfl, hhas⟩⟩
  rcases hf with ⟨L, rfl, i, j, hi, hj, hn, hl⟩ | ⟨L, rfl, hl, hn, _⟩
  · have := hs.least i j hi hj hn; omega
  · have := hs.least k k hkk hkk hn; omega
/-- A clean round with a spoiler behind it. -/
theorem Far.spoiled {p : Int} (hp : Pr p) {n : Nat} {A : Nat → Nat → PS} {k m : Nat} {M : MxL} (h : Sm p n A k M) (hk : k < n) (hf : Far p n k m M) {x y : Nat} (hs : Small n k M x y) (hc : Clean p n k (swpM k x y M)) {bad j : Nat}
    (hb : k < bad) (hb2 : bad < n) (hj : k < j) (hj2 : j < n) (hr : (divp p (clrM p n k (swpM k x y M) bad j) (clrM p n k (swpM k x y M) k k)).2 ≠ []) :
    ∃ m', m' < m ∧ Far p n k m' (spoil p n k bad (clrM p n k (swpM k x y M))) := by
  have hS := h.swap hs.hx hs.hy
  have hne : swpM k x y M k k ≠ [] := by rw [swpM_corner]; exact hs.ne
  have hC := hS.clear hp hk hne
  have hkk : Part k n k := ⟨Nat.le_refl k, hk⟩
  have e1 : spoil p n k bad (clrM p n k (swpM k x y M)) k k = M x y := by
    unfold spoil
    rw [if_pos ⟨rfl, Nat.le_refl k, hk⟩, hS.clr_col hp hk hne hb hb2, hc.1 bad hb hb2, clr_corner, swpM_corner]
    exact addp_one_nil hp (h.po x y hs.hx.2 hs.hy.2)
  have e2 : spoil p n k bad (clrM p n k (swpM k x y M)) k j = clrM p n k (swpM k x y M) bad j := by
    unfold spoil
    rw [if_pos ⟨rfl, by omega, hj2⟩, hS.clr_row hp hk hne hj hj2, hc.2 j hj hj2]
    exact addp_nil_one hp (hC.po bad j hb2 hj2)
  refine ⟨2 * (M x y).length, ?_, .inr ⟨_, rfl, by rw [e1], by rw [e1]; exact hs.ne, j, hj, hj2, ?_⟩⟩
  · rcases hf with ⟨L, rfl, i, i', hi, hi', hn, hl⟩ | ⟨L, rfl, hl, hn, j', hj', hj2', hr'⟩
    · have := hs.least i i' hi hi' hn; omega
    · rcases hs.first with ⟨rfl, rfl⟩ | h1 | h1
      · refine absurd ?_ hr'
        rw [swpM_self] at hc
        exact hc.2 j' hj' hj2'
      · exact absurd h1 hn
      · omega
  · rw [e1, e2]
    rw [clr_corner, swpM_corner] at hr
    exact hr
/-- A clean round without a spoiler. -/
theorem Sm.stage {p : Int} (hp : Pr p) {n : Nat} {A : Nat → Nat → PS} {k : Nat} {M : MxL} (h : Sm p n A k M) (hk : k < n) {x y : Nat} (hs : Small n k M x y) (hc : Clean p n k (swpM k x y M))
    (h3 : ∀ i j, k < i → i < n → k < j → j < n → (divp p (clrM p n k (swpM k x y M) i j) (clrM p n k (swpM k x y M) k k)).2 = []) : Sm p n A (k + 1) (clrM p n k (swpM k x y M)) := by
  have hS := h.swap hs.hx hs.hy
  have hne : swpM k x y M k k ≠ [] := by rw [swpM_corner]; exact hs.ne
  refine (hS.clear hp hk hne).next hp hk (by rw [clr_corner]; exact hne) (fun i hi hi2 => ?_) (fun j hj hj2 => ?_) h3
  · rw [hS.clr_col hp hk hne hi hi2]; exact hc.1 i hi hi2
  · rw [hS.clr_row hp hk hne hj hj2]; exact hc.2 j hj hj2
end Go.Proofs.Ytnkkkgaojhkniab

/- Several texts in one: Det, Min, Smi, Smd, MatP, Cyc, Cyd, Cye, Cyf, Dig, RelP. -/
import Derived.Test.YtnkkkgaojhkniabPure
set_option linter.unusedVariables false
set_option linter.unusedSimpArgs false
/- Determinants of sequences over lists of rows and of columns. No program in sight. -/
namespace Go.Proofs.Ytnkkkgaojhkniab

/-- A difference. -/
def psb (f g : PS) : PS := padd f (psmul (-1) g)
/-- The members of a list one after the other, each with the rest of the list, with changing signs. -/
def alt (f : Nat → List Nat → PS) : List Nat → PS
  | [] => pzero
  | c :: C => psb (f c C) (alt (fun x X => f x (c :: X)) C)
theorem alt_congr : ∀ (C : List Nat) (f g : Nat → List Nat → PS), (∀ c X, X.length + 1 = C.length → c ∈ C → (∀ x ∈ X, x ∈ C) → f c X = g c X) → alt f C = alt g C
  | [], _, _, _ => rfl
  | c :: C, f, g, h => by
    show psb _ _ = psb _ _
    rw [h c C rfl (by simp) (fun x hx => by simp [hx]), alt_congr C _ _ fun x X hl hx hX => h x (c :: X) (by simp; omega) (by simp [hx]) (fun y hy => by
      rcases List.mem_cons.1 hy with rfl | hy
      · simp
      · simp [hX y hy])]
theorem alt_same {f g : Nat → List Nat → PS} (h : ∀ c X, f c X = g c X) (C : List Nat) : alt f C = alt g C := alt_congr C f g fun c X _ _ _ => h c X
theorem psb_self (f : PS) : psb f f = pzero := by funext n; show f n + -1 * f n = 0; omega
theorem psb_zero (f : PS) : psb f pzero = f := by funext n; show f n + -1 * 0 = f n; omega
theorem alt_zero : ∀ (C : List Nat), alt (fun _ _ => pzero) C = pzero
  | [] => rfl
  | _ :: C => by show psb pzero (alt (fun _ _ => pzero) C) = pzero; rw [alt_zero C, psb_self]
theorem alt_sub : ∀ (C : List Nat) (f g : Nat → List Nat → PS), alt (fun c X => psb (f c X) (g c X)) C = psb (alt f C) (alt g C)
  | [], _, _ => (psb_self _).symm
  | c :: C, f, g => by
    show psb (psb _ _) (alt (fun x X => psb (f x (c :: X)) (g x (c :: X))) C) = psb (psb _ _) (psb _ _)
    rw [alt_sub C]
    funext n; show _ + -1 * _ + -1 * (_ + -1 * _) = _ + -1 * _ + -1 * (_ + -1 * _); omega
theorem alt_add : ∀ (C : List Nat) (f g : Nat → List Nat → PS), alt (fun c X => padd (f c X) (g c X)) C = padd (alt f C) (alt g C)
  | [], _, _ => (padd_pzero _).symm
  | c :: C, f, g => by
    show psb (padd _ _) (alt (fun x X => padd (f x (c :: X)) (g x (c :: X))) C) = padd (psb _ _) (psb _ _)
    rw [alt_add C]
    funext n; show _ + _ + -1 * (_ + _) = _ + -1 * _ + (_ + -1 * _); omega
theorem pmul_psb (k f g : PS) : pmul k (psb f g) = psb (pmul k f) (pmul k g) := by unfold psb; rw [pmul_add, pmul_psmul]
theorem alt_mul (k : PS) : ∀ (C : List Nat) (f : Nat → List Nat → PS), alt (fun c X => pmul k (f c X)) C = pmul k (alt f C)
  | [], _ => (pmul_pzero k).symm
  | c :: C, f => by
    show psb (pmul _ _) (alt (fun x X => pmul k (f x (c :: X))) C) = pmul k (psb _ _)
    rw [alt_mul k C, pmul_psb]
theorem alt_smul (k : Int) : ∀ (C : List Nat) (f : Nat → List Nat → PS), alt (fun c X => psmul k (f c X)) C = psmul k (alt f C)
  | [], _ => (psmul_pzero k).symm
  | c :: C, f => by
    show psb (psmul _ _) (alt (fun x X => psmul k (f x (c :: X))) C) = psmul k (psb _ _)
    rw [alt_smul k C]
    unfold psb
    rw [psmul_padd, psmul_psmul, psmul_psmul, Int.mul_comm]
theorem alt_comm : ∀ (C D : List Nat) (F : Nat → List Nat → Nat → List Nat → PS), alt (fun x X => alt (fun y Y => F x X y Y) D) C = alt (fun y Y => alt (fun x X => F x X y Y) C) D
  | [], D, _ => (alt_zero D).symm
  | c :: C, D, F => by
    show psb (alt (fun y Y => F c C y Y) D) (alt (fun x X => alt (fun y Y => F x (c :: X) y Y) D) C) = alt (fun y Y => psb (F c C y Y) (alt (fun x X => F x (c :: X) y Y) C)) D
    rw [alt_comm C D fun x X y Y => F x (c :: X) y Y, alt_sub]
/-- Two members taken, in a way that does not depend on their order. -/
theorem alt_twice : ∀ (C : List Nat) (F : Nat → Nat → List Nat → PS), (∀ x y X, F x y X = F y x X) → alt (fun x X => alt (fun y Y => F x y Y) X) C = pzero
  | [], _, _ => rfl
  | c :: C, F, h => by
    show psb (alt (fun y Y => F c y Y) C) (alt (fun x X => psb (F x c X) (alt (fun y Y => F x y (c :: Y)) X)) C) = pzero
    rw [alt_sub, alt_twice C (fun x y Y => F x y (c :: Y)) fun x y X => h x y _, psb_zero, alt_same (f := fun y Y => F c y Y) (g := fun x X => F x c X) fun x X => h c x X, psb_self]

/-- The determinant of a list of rows over a list of columns. -/
def detR : List (Nat → PS) → List Nat → PS
  | [], _ => pone
  | r :: L, C => alt (fun c X => pmul (r c) (detR L X)) C
def det (a : Nat → Nat → PS) (R C : List Nat) : PS := detR (R.map a) C
theorem det_cons (a : Nat → Nat → PS) (r : Nat) (R C : List Nat) : det a (r :: R) C = alt (fun c X => pmul (a r c) (det a R X)) C := rfl
theorem det_nil (a : Nat → Nat → PS) (C : List Nat) : det a [] C = pone := rfl
/-- Rows and columns exchanged. -/
theorem det_flip (a : Nat → Nat → PS) : ∀ (n : Nat) (R C : List Nat), R.length = n → C.length = n → det a R C = det (fun i j => a j i) C R := by
  intro n
  induction n using Nat.strongRecOn with
  | _ n ih =>
    intro R C hR hC
    cases R with
    | nil => cases C with
      | nil => rfl
      | cons c C => simp at hR hC; omega
    | cons r R => cases C with
      | nil => simp at hR hC; omega
      | cons c C =>
        simp only [List.length_cons] at hR hC
        have e1 : alt (fun x X => pmul (a r x) (det a R (c :: X))) C = alt (fun x X => alt (fun y Y => pmul (a r x) (pmul (a y c) (det (fun i j => a j i) X Y))) R) C := by
          refine alt_congr C _ _ fun x X hX _ _ => ?_
          rw [ih (n - 1) (by omega) R (c :: X) (by omega) (by simp; omega), det_cons, alt_mul]
        have e2 : alt (fun y Y => pmul (a y c) (det (fun i j => a j i) C (r :: Y))) R = alt (fun y Y => alt (fun x X => pmul (a r x) (pmul (a y c) (det (fun i j => a j i) X Y))) C) R := by
          refine alt_congr R _ _ fun y Y hY _ _ => ?_
          rw [← ih (n - 1) (by omega) (r :: Y) C (by simp; omega) (by omega), det_cons, ← alt_mul]
          refine alt_congr C _ _ fun x X hX _ _ => ?_
          rw [ih (n - 2) (by omega) Y X (by omega) (by omega), pmul_left_comm]
        show psb (pmul (a r c) (det a R C)) (alt (fun x X => pmul (a r x) (det a R (c :: X))) C) = psb (pmul (a r c) (det (fun i j => a j i) C R)) (alt (fun y Y => pmul (a y c) (det (fun i j => a j i) C (r :: Y))) R)
        rw [e1, e2, ih (n - 1) (by omega) R C (by omega) (by omega), alt_comm]
/-- The first column apart. -/
theorem det_first (a : Nat → Nat → PS) (r c : Nat) (R C : List Nat) (h : R.length = C.length) :
    det a (r :: R) (c :: C) = psb (pmul (a r c) (det a R C)) (alt (fun y Y => pmul (a y c) (det a (r :: Y) C)) R) := by
  rw [det_flip a (R.length + 1) (r :: R) (c :: C) (by simp) (by simp [h])]
  show psb (pmul (a r c) (det (fun i j => a j i) C R)) (alt (fun y Y => pmul (a y c) (det (fun i j => a j i) C (r :: Y))) R) = _
  rw [← det_flip a R.length R C rfl h.symm]
  congr 1
  refine alt_congr R _ _ fun y Y hY _ _ => ?_
  rw [← det_flip a R.length (r :: Y) C (by simp; omega) h.symm]
theorem detR_twice (r : Nat → PS) (L : List (Nat → PS)) (C : List Nat) : detR (r :: r :: L) C = pzero := by
  show alt (fun x X => pmul (r x) (alt (fun y Y => pmul (r y) (detR L Y)) X)) C = pzero
  rw [← alt_twice C (fun x y Y => pmul (r x) (pmul (r y) (detR L Y))) fun x y X => pmul_left_comm _ _ _]
  exact alt_same (fun x X => (alt_mul _ X _).symm) C
theorem detR_add (r s : Nat → PS) (L2 : List (Nat → PS)) : ∀ (L1 : List (Nat → PS)) (C : List Nat), detR (L1 ++ (fun c => padd (r c) (s c)) :: L2) C = padd (detR (L1 ++ r :: L2) C) (detR (L1 ++ s :: L2) C)
  | [], C => by
    show alt (fun x X => pmul (padd (r x) (s x)) (detR L2 X)) C = padd (alt _ C) (alt _ C)
    rw [← alt_add]
    exact alt_same (fun x X => padd_mul _ _ _) C
  | t :: L1, C => by
    show alt (fun x X => pmul (t x) (detR (L1 ++ _ :: L2) X)) C = padd (alt _ C) (alt _ C)
    rw [← alt_add]
    exact alt_same (fun x X => by rw [detR_add r s L2 L1 X, pmul_add]; rfl) C
theorem detR_mul (k : PS) (r : Nat → PS) (L2 : List (Nat → PS)) : ∀ (L1 : List (Nat → PS)) (C : List Nat), detR (L1 ++ (fun c => pmul k (r c)) :: L2) C = pmul k (detR (L1 ++ r :: L2) C)
  | [], C => by
    show alt (fun x X => pmul (pmul k (r x)) (detR L2 X)) C = pmul k (alt _ C)
    rw [← alt_mul]
    exact alt_same (fun x X => pmul_assoc _ _ _) C
  | t :: L1, C => by
    show alt (fun x X => pmul (t x) (detR (L1 ++ _ :: L2) X)) C = pmul k (alt _ C)
    rw [← alt_mul]
    exact alt_same (fun x X => by rw [detR_mul k r L2 L1 X, pmul_left_comm]; rfl) C
theorem detR_zero (L2 : List (Nat → PS)) : ∀ (L1 : List (Nat → PS)) (C : List Nat), detR (L1 ++ (fun _ => pzero) :: L2) C = pzero
  | [], C => by
    show alt (fun x X => pmul pzero (detR L2 X)) C = pzero
    rw [alt_same (g := fun _ _ => pzero) (fun x X => pzero_mul _) C, alt_zero]
  | t :: L1, C => by
    show alt (fun x X => pmul (t x) (detR (L1 ++ _ :: L2) X)) C = pzero
    rw [alt_same (g := fun _ _ => pzero) (fun x X => by rw [detR_zero L2 L1 X, pmul_pzero]) C, alt_zero]
/-- Two rows next to one another exchanged. -/
theorem detR_swap (r s : Nat → PS) (L2 : List (Nat → PS)) (C : List Nat) : detR (r :: s :: L2) C = psmul (-1) (detR (s :: r :: L2) C) := by
  have h := detR_twice (fun c => padd (r c) (s c)) L2 C
  have e1 := detR_add r s ((fun c => padd (r c) (s c)) :: L2) [] C
  have e2 := detR_add r s L2 [r] C
  have e3 := detR_add r s L2 [s] C
  have e4 := detR_twice r L2 C
  have e5 := detR_twice s L2 C
  simp only [List.nil_append, List.cons_append] at e1 e2 e3
  rw [h, e2, e3, e4, e5] at e1
  funext n
  have := congrFun e1 n
  show detR (r :: s :: L2) C n = -1 * detR (s :: r :: L2) C n
  have e6 : pzero n = pzero n + detR (r :: s :: L2) C n + (detR (s :: r :: L2) C n + pzero n) := this
  have : pzero n = 0 := rfl
  omega
theorem detR_again (r : Nat → PS) (L2 : List (Nat → PS)) : ∀ (L1 : List (Nat → PS)) (C : List Nat), detR (r :: (L1 ++ r :: L2)) C = pzero
  | [], C => detR_twice r L2 C
  | t :: L1, C => by
    show detR (r :: t :: (L1 ++ r :: L2)) C = pzero
    rw [detR_swap]
    show psmul (-1) (alt (fun x X => pmul (t x) (detR (r :: (L1 ++ r :: L2)) X)) C) = pzero
    rw [alt_same (g := fun _ _ => pzero) (fun x X => by rw [detR_again r L2 L1 X, pmul_pzero]) C, alt_zero, psmul_pzero]
/-- A row that stands there already. -/
theorem detR_rep (r : Nat → PS) (L2 : List (Nat → PS)) : ∀ (L1 : List (Nat → PS)) (C : List Nat), r ∈ L1 → detR (L1 ++ r :: L2) C = pzero
  | [], _, h => absurd h (by simp)
  | t :: L1, C, h => by
    rcases List.mem_cons.1 h with rfl | h
    · exact detR_again _ L2 L1 C
    · show alt (fun x X => pmul (t x) (detR (L1 ++ r :: L2) X)) C = pzero
      rw [alt_same (g := fun _ _ => pzero) (fun x X => by rw [detR_rep r L2 L1 X h, pmul_pzero]) C, alt_zero]
/-- Another order of the rows changes no more than the sign. -/
theorem detR_perm {L L' : List (Nat → PS)} (h : L.Perm L') : ∃ s : Int, (s = 1 ∨ s = -1) ∧ ∀ C, detR L C = psmul s (detR L' C) := by
  induction h with
  | nil => exact ⟨1, .inl rfl, fun C => (psmul_one _).symm⟩
  | cons x _ ih =>
    obtain ⟨s, hs, e⟩ := ih
    refine ⟨s, hs, fun C => ?_⟩
    show alt _ C = psmul s (alt _ C)
    rw [← alt_smul]
    exact alt_same (fun c X => by rw [e, pmul_psmul]) C
  | swap x y L => exact ⟨-1, .inr rfl, fun C => detR_swap _ _ _ _⟩
  | trans _ _ ih1 ih2 =>
    obtain ⟨s, hs, e⟩ := ih1
    obtain ⟨t, ht, e2⟩ := ih2
    refine ⟨s * t, ?_, fun C => by rw [e, e2, psmul_psmul]⟩
    rcases hs with rfl | rfl <;> rcases ht with rfl | rfl <;> decide
theorem det_perm (a : Nat → Nat → PS) {R R' : List Nat} (h : R.Perm R') : ∃ s : Int, (s = 1 ∨ s = -1) ∧ ∀ C, det a R C = psmul s (det a R' C) := detR_perm (h.map a)
theorem det_dup (a : Nat → Nat → PS) {R : List Nat} (h : ¬ R.Nodup) (C : List Nat) : det a R C = pzero := by
  have : ∃ x L1 L2, R = L1 ++ x :: L2 ∧ x ∈ L1 := by
    clear C
    induction R with
    | nil => exact absurd List.nodup_nil h
    | cons x R ih =>
      by_cases hx : x ∈ R
      · obtain ⟨A, B, e⟩ := List.append_of_mem hx
        exact ⟨x, x :: A, B, by rw [e]; rfl, by simp⟩
      · obtain ⟨y, A, B, e, hm⟩ := ih fun hn => h (List.nodup_cons.2 ⟨hx, hn⟩)
        exact ⟨y, x :: A, B, by rw [e]; rfl, by simp [hm]⟩
  obtain ⟨x, L1, L2, rfl, hm⟩ := this
  unfold det
  rw [List.map_append, List.map_cons]
  exact detR_rep _ _ _ _ (List.mem_map.2 ⟨x, hm, rfl⟩)
/-- Multiples of a row that stands there taken from others. -/
theorem detR_less (r : Nat → PS) (a b : Nat → Nat → PS) (q : Nat → PS) : ∀ (R : List Nat), (∀ i ∈ R, b i = fun c => padd (a i c) (pmul (q i) (r c))) →
    ∀ (L0 : List (Nat → PS)) (C : List Nat), r ∈ L0 → detR (L0 ++ R.map b) C = detR (L0 ++ R.map a) C
  | [], _, _, _, _ => rfl
  | i :: R, h, L0, C, hm => by
    show detR (L0 ++ b i :: R.map b) C = detR (L0 ++ a i :: R.map a) C
    rw [h i (by simp), detR_add, detR_mul, detR_rep r _ _ _ hm, pmul_pzero, padd_pzero]
    have := detR_less r a b q R (fun j hj => h j (by simp [hj])) (L0 ++ [a i]) C (by simp [hm])
    simpa using this
/-- What holds of all determinants of rows, closed under sums and under some multiples, holds of those of rows put together of them. -/
theorem det_close {Q K : PS → Prop} (hadd : ∀ f g, Q f → Q g → Q (padd f g)) (hz : Q pzero) (hmul : ∀ q f, K q → Q f → Q (pmul q f)) (S : Nat → Prop) (a b : Nat → Nat → PS)
    (hb : ∀ i, S i → ∃ l : List (PS × Nat), (∀ x ∈ l, K x.1 ∧ S x.2) ∧ b i = l.foldr (fun x f => fun c => padd (pmul x.1 (a x.2 c)) (f c)) (fun _ => pzero)) (C : List Nat) :
    ∀ (R1 : List Nat), (∀ i ∈ R1, S i) → ∀ (R0 : List Nat), (∀ i ∈ R0, S i) → (∀ R : List Nat, (∀ i ∈ R, S i) → R.length = R0.length + R1.length → Q (det a R C)) → Q (detR (R0.map a ++ R1.map b) C)
  | [], _, R0, h0, h => by
    rw [List.map_nil, List.append_nil]
    exact h R0 h0 (by simp)
  | i :: R1, h1, R0, h0, h => by
    obtain ⟨l, hl, e⟩ := hb i (h1 i (by simp))
    show Q (detR (R0.map a ++ b i :: R1.map b) C)
    rw [e]
    clear e
    induction l with
    | nil => rw [List.foldr_nil, detR_zero]; exact hz
    | cons x l ih =>
      rw [List.foldr_cons, detR_add, detR_mul]
      refine hadd _ _ (hmul _ _ (hl x (by simp)).1 ?_) (ih fun y hy => hl y (by simp [hy]))
      have := det_close hadd hz hmul S a b hb C R1 (fun j hj => h1 j (by simp [hj])) (R0 ++ [x.2]) (fun j hj => by
        rcases List.mem_append.1 hj with hj | hj
        · exact h0 j hj
        · rw [List.mem_singleton.1 hj]; exact (hl x (by simp)).2) fun R hR hlen => h R hR (by simp at hlen ⊢; omega)
      simpa using this
theorem alt_eqp {p : Int} : ∀ (C : List Nat) (f g : Nat → List Nat → PS), (∀ c X, X.length + 1 = C.length → c ∈ C → (∀ x ∈ X, x ∈ C) → Eqp p (f c X) (g c X)) → Eqp p (alt f C) (alt g C)
  | [], _, _, _ => Eqp.refl _
  | c :: C, f, g, h => by
    show Eqp p (padd _ (psmul _ _)) (padd _ (psmul _ _))
    refine Eqp.add (h c C rfl (by simp) (fun x hx => by simp [hx])) (Eqp.smul (alt_eqp C _ _ fun x X hl hx hX => h x (c :: X) (by simp; omega) (by simp [hx]) (fun y hy => by
      rcases List.mem_cons.1 hy with rfl | hy
      · simp
      · simp [hX y hy])))
theorem det_eqp {p : Int} {a b : Nat → Nat → PS} : ∀ (R C : List Nat), (∀ i ∈ R, ∀ c ∈ C, Eqp p (a i c) (b i c)) → Eqp p (det a R C) (det b R C)
  | [], _, _ => Eqp.refl _
  | i :: R, C, h => by
    rw [det_cons, det_cons]
    exact alt_eqp C _ _ fun c X _ hc hX => Eqp.mul (h i (by simp) c hc) (det_eqp R X fun j hj x hx => h j (by simp [hj]) x (hX x hx))
/-- What holds of all terms, closed under differences. -/
theorem alt_close {Q : PS → Prop} (hsub : ∀ f g, Q f → Q g → Q (psb f g)) (hz : Q pzero) : ∀ (C : List Nat) (f : Nat → List Nat → PS), (∀ c X, X.length + 1 = C.length → c ∈ C → (∀ x ∈ X, x ∈ C) → Q (f c X)) → Q (alt f C)
  | [], _, _ => hz
  | c :: C, f, h => hsub _ _ (h c C rfl (by simp) (fun x hx => by simp [hx])) (alt_close hsub hz C _ fun x X hl hx hX => h x (c :: X) (by simp; omega) (by simp [hx]) (fun y hy => by
      rcases List.mem_cons.1 hy with rfl | hy
      · simp
      · simp [hX y hy]))
end Go.Proofs.Ytnkkkgaojhkniab

/- Determinants of parts of a matrix: how long they are, what divides them. No program in sight. -/
namespace Go.Proofs.Ytnkkkgaojhkniab

/-- No more than N coefficients modulo p. -/
def Ln (p : Int) (N : Nat) (f : PS) : Prop := ∀ i, N ≤ i → f i % p = 0
theorem Ln.le {p : Int} {N M : Nat} {f : PS} (h : Ln p N f) (hl : N ≤ M) : Ln p M f := fun i hi => h i (by omega)
theorem Ln.eqp {p : Int} {N : Nat} {f g : PS} (h : Ln p N f) (e : Eqp p g f) : Ln p N g := fun i hi => (e i).trans (h i hi)
theorem Ln.add {p : Int} {N : Nat} {f g : PS} (h : Ln p N f) (k : Ln p N g) : Ln p N (padd f g) := fun i hi => by
  have := emod_add_congr (p := p) ((h i hi).trans (Int.zero_emod p).symm) ((k i hi).trans (Int.zero_emod p).symm)
  show (f i + g i) % p = 0
  rw [this]; exact Int.zero_emod p
theorem Ln.smul {p : Int} {N : Nat} {f : PS} (c : Int) (h : Ln p N f) : Ln p N (psmul c f) := fun i hi => by
  show c * f i % p = 0
  rw [Int.mul_emod, h i hi]; simp
theorem Ln.psb {p : Int} {N : Nat} {f g : PS} (h : Ln p N f) (k : Ln p N g) : Ln p N (psb f g) := h.add (k.smul (-1))
theorem Ln.zero (p : Int) (N : Nat) : Ln p N pzero := fun _ _ => Int.zero_emod p
theorem Ln.of_list (p : Int) (a : List Int) : Ln p a.length (cf a) := fun i hi => by rw [cf_ge a i hi]; exact Int.zero_emod p
theorem Ln.of_fin {p : Int} {N : Nat} {f : PS} (h : Fin0 f N) : Ln p N f := fun i hi => by rw [h i hi]; exact Int.zero_emod p
theorem Po.eq0 {p : Int} {a : List Int} (h : Po p a) {i : Nat} (hn : cf a i % p = 0) : cf a i = 0 := by
  rwa [Int.emod_eq_of_lt (h.md i).1 (h.md i).2] at hn
theorem Ln.len {p : Int} {a : List Int} (ha : Po p a) {N : Nat} (h : Ln p N (cf a)) : a.length ≤ N := Tr_length_le ha.tr fun i hi => ha.eq0 (h i hi)
theorem sumN_zero_mod {p : Int} {n : Nat} {f : Nat → Int} (h : ∀ i, i < n → f i % p = 0) : sumN n f % p = 0 := by
  rw [sumN_emod (g := fun _ => 0) fun i hi => (h i hi).trans (Int.zero_emod p).symm, sumN_zero]; exact Int.zero_emod p
theorem sumN_one_mod {p : Int} {n k : Nat} {f : Nat → Int} (hk : k < n) (h : ∀ i, i < n → i ≠ k → f i % p = 0) : sumN n f % p = f k % p := by
  induction n with
  | zero => omega
  | succ n ih =>
    show (sumN n f + f n) % p = _
    by_cases e : k = n
    · subst e
      rw [Int.add_emod, sumN_zero_mod fun i hi => h i (by omega) (by omega), Int.zero_add, Int.emod_emod_of_dvd _ (Int.dvd_refl p)]
    · rw [Int.add_emod, ih (by omega) fun i hi => h i (by omega), h n (by omega) (by omega), Int.add_zero, Int.emod_emod_of_dvd _ (Int.dvd_refl p)]
theorem emod_mul_zero_left {p x y : Int} (h : x % p = 0) : x * y % p = 0 := by rw [Int.mul_emod, h]; simp
theorem emod_mul_zero_right {p x y : Int} (h : y % p = 0) : x * y % p = 0 := by rw [Int.mul_emod, h]; simp
theorem Ln.mul {p : Int} {N M K : Nat} {f g : PS} (h : Ln p N f) (k : Ln p M g) (hl : N + M ≤ K + 1) : Ln p K (pmul f g) := fun i hi =>
  sumN_zero_mod fun j hj => by
    by_cases e : N ≤ j
    · exact emod_mul_zero_left (h j e)
    · exact emod_mul_zero_right (k (i - j) (by omega))
/-- The factor of a product of a known length. -/
theorem Ln.top {p : Int} (hp : Pr p) {d L N : Nat} {f g : PS} (hf : Ln p (d + 1) f) (hd : f d % p ≠ 0) (hg : Ln p N g) (h : Ln p (d + L) (pmul f g)) : Ln p L g := by
  have key : ∀ t, Ln p (L + t) g → Ln p L g := by
    intro t
    induction t with
    | zero => exact fun h => h
    | succ t ih =>
      intro hk
      refine ih fun i hi => ?_
      by_cases e : i = L + t
      · subst e
        have h1 := h (d + (L + t)) (by omega)
        have h2 : pmul f g (d + (L + t)) % p = f d * g (d + (L + t) - d) % p := sumN_one_mod (by omega) fun j hj hne => by
          by_cases e2 : d + 1 ≤ j
          · exact emod_mul_zero_left (hf j e2)
          · exact emod_mul_zero_right (hk _ (by omega))
        rw [h2, show d + (L + t) - d = L + t by omega, Int.mul_comm] at h1
        exact emod_zero_mul hp h1 hd
      · exact hk i (by omega)
  by_cases e : N ≤ L
  · exact hg.le e
  · exact key (N - L) (by rwa [show L + (N - L) = N by omega])

/-- A row is put together of the rows of a matrix. -/
def lcomb (a : Nat → Nat → PS) (l : List (PS × Nat)) : Nat → PS := l.foldr (fun x f => fun c => padd (pmul x.1 (a x.2 c)) (f c)) (fun _ => pzero)
def RowsOf (p : Int) (S : Nat → Prop) (K : PS → Prop) (a b : Nat → Nat → PS) : Prop :=
  ∀ i, S i → ∃ l : List (PS × Nat), (∀ x ∈ l, K x.1 ∧ S x.2) ∧ ∀ c, S c → Eqp p (b i c) (lcomb a l c)
def AllMin (Q : PS → Prop) (S : Nat → Prop) (a : Nat → Nat → PS) : Prop := ∀ R C : List Nat, (∀ i ∈ R, S i) → (∀ c ∈ C, S c) → R.length = C.length → Q (det a R C)
def AllMinK (Q : PS → Prop) (S : Nat → Prop) (k : Nat) (a : Nat → Nat → PS) : Prop := ∀ R C : List Nat, (∀ i ∈ R, S i) → (∀ c ∈ C, S c) → R.length = k → C.length = k → Q (det a R C)
theorem AllMin.K {Q : PS → Prop} {S : Nat → Prop} {a : Nat → Nat → PS} (h : AllMin Q S a) (k : Nat) : AllMinK Q S k a := fun R C hR hC h1 h2 => h R C hR hC (h1.trans h2.symm)
theorem AllMin.of {Q : PS → Prop} {S : Nat → Prop} {a : Nat → Nat → PS} (h : ∀ k, AllMinK Q S k a) : AllMin Q S a := fun R C hR hC hl => h R.length R C hR hC rfl hl.symm
theorem AllMinK.flip {Q : PS → Prop} {S : Nat → Prop} {k : Nat} {a : Nat → Nat → PS} (h : AllMinK Q S k a) : AllMinK Q S k (fun i j => a j i) := fun R C hR hC h1 h2 => by
  rw [← det_flip a k C R h2 h1]; exact h C R hC hR h2 h1
theorem AllMin.flip {Q : PS → Prop} {S : Nat → Prop} {a : Nat → Nat → PS} (h : AllMin Q S a) : AllMin Q S (fun i j => a j i) := AllMin.of fun k => (h.K k).flip
theorem AllMinK.rows {Q K : PS → Prop} (hadd : ∀ f g, Q f → Q g → Q (padd f g)) (hz : Q pzero) (hmul : ∀ q f, K q → Q f → Q (pmul q f)) {p : Int} (heq : ∀ f g, Q f → Eqp p g f → Q g) {S : Nat → Prop} {k : Nat} {a b : Nat → Nat → PS}
    (hb : RowsOf p S K a b) (h : AllMinK Q S k a) : AllMinK Q S k b := fun R C hR hC h1 h2 => by
  have hch : ∀ i, ∃ l : List (PS × Nat), S i → (∀ x ∈ l, K x.1 ∧ S x.2) ∧ ∀ c, S c → Eqp p (b i c) (lcomb a l c) := fun i => by
    by_cases hs : S i
    · obtain ⟨l, hl⟩ := hb i hs; exact ⟨l, fun _ => hl⟩
    · exact ⟨[], fun h => absurd h hs⟩
  obtain ⟨f, hf⟩ := Classical.axiomOfChoice hch
  have := det_close hadd hz hmul S a (fun i => lcomb a (f i)) (fun i hi => ⟨f i, (hf i hi).1, rfl⟩) C R hR [] (by simp) fun R' hR' hlen => h R' C hR' hC (by simpa [h1] using hlen) h2
  refine heq _ _ this ?_
  exact det_eqp R C fun i hi c hc => (hf i (hR i hi)).2 c (hC c hc)
theorem AllMinK.eqp {Q : PS → Prop} {p : Int} (heq : ∀ f g, Q f → Eqp p g f → Q g) {S : Nat → Prop} {k : Nat} {a b : Nat → Nat → PS} (hb : ∀ i j, S i → S j → Eqp p (b i j) (a i j)) (h : AllMinK Q S k a) : AllMinK Q S k b :=
  fun R C hR hC h1 h2 => heq _ _ (h R C hR hC h1 h2) (det_eqp R C fun i hi c hc => hb i c (hR i hi) (hC c hc))

/-- The elementary steps. -/
def RowAdd (p : Int) (S : Nat → Prop) (k : Nat) (q : Nat → PS) (a b : Nat → Nat → PS) : Prop := ∀ i j, S i → S j → Eqp p (b i j) (if i = k then a k j else padd (a i j) (pmul (q i) (a k j)))
def swp (k i x : Nat) : Nat := if x = k then i else if x = i then k else x
def RowSwap (p : Int) (S : Nat → Prop) (k l : Nat) (a b : Nat → Nat → PS) : Prop := ∀ i j, S i → S j → Eqp p (b i j) (a (swp k l i) j)
theorem swp_S {S : Nat → Prop} {k l i : Nat} (hk : S k) (hl : S l) (hi : S i) : S (swp k l i) := by unfold swp; split <;> (try split) <;> assumption
theorem swp_swp (k l i : Nat) : swp k l (swp k l i) = i := by
  unfold swp
  by_cases h : i = k
  · subst h; rw [if_pos rfl]
    by_cases h2 : l = i
    · subst h2; simp
    · rw [if_neg h2, if_pos rfl]
  · rw [if_neg h]
    by_cases h2 : i = l
    · subst h2; rw [if_pos rfl, if_pos rfl]
    · rw [if_neg h2, if_neg h, if_neg h2]
theorem lcomb_one (a : Nat → Nat → PS) (i c : Nat) : lcomb a [(pone, i)] c = a i c := by
  show padd (pmul pone (a i c)) pzero = a i c
  rw [pone_mul, padd_pzero]
theorem lcomb_two (a : Nat → Nat → PS) (i k c : Nat) (q : PS) : lcomb a [(pone, i), (q, k)] c = padd (a i c) (pmul q (a k c)) := by
  show padd (pmul pone (a i c)) (padd (pmul q (a k c)) pzero) = _
  rw [pone_mul, padd_pzero]
theorem RowAdd.rows {p : Int} {S : Nat → Prop} {K : PS → Prop} {k : Nat} {q : Nat → PS} {a b : Nat → Nat → PS} (h : RowAdd p S k q a b) (hk : S k) (h1 : K pone) (hq : ∀ i, S i → i ≠ k → K (q i)) : RowsOf p S K a b := fun i hi => by
  by_cases e : i = k
  · subst e
    refine ⟨[(pone, i)], fun x hx => ?_, fun c hc => ?_⟩
    · rw [List.mem_singleton.1 hx]; exact ⟨h1, hi⟩
    · rw [lcomb_one]; have := h i c hi hc; rwa [if_pos rfl] at this
  · refine ⟨[(pone, i), (q i, k)], fun x hx => ?_, fun c hc => ?_⟩
    · rcases List.mem_cons.1 hx with rfl | hx
      · exact ⟨h1, hi⟩
      · rw [List.mem_singleton.1 hx]; exact ⟨hq i hi e, hk⟩
    · rw [lcomb_two]; have := h i c hi hc; rwa [if_neg e] at this
theorem RowAdd.symm {p : Int} {S : Nat → Prop} {k : Nat} {q : Nat → PS} {a b : Nat → Nat → PS} (hk : S k) (h : RowAdd p S k q a b) : RowAdd p S k (fun i => psmul (-1) (q i)) b a := fun i j hi hj => by
  have h1 := h i j hi hj
  have h2 := h k j hk hj
  rw [if_pos rfl] at h2
  by_cases e : i = k
  · subst e; rw [if_pos rfl] at h1 ⊢; exact h1.symm
  · rw [if_neg e] at h1 ⊢
    refine Eqp.trans (Eqp.of_eq ?_) (Eqp.add h1.symm (Eqp.mul (Eqp.refl (psmul (-1) (q i))) h2.symm))
    rw [psmul_pmul]
    funext n; show a i j n = a i j n + pmul (q i) (a k j) n + -1 * pmul (q i) (a k j) n; omega
theorem RowSwap.rows {p : Int} {S : Nat → Prop} {K : PS → Prop} {k l : Nat} {a b : Nat → Nat → PS} (h : RowSwap p S k l a b) (hk : S k) (hl : S l) (h1 : K pone) : RowsOf p S K a b := fun i hi =>
  ⟨[(pone, swp k l i)], fun x hx => by rw [List.mem_singleton.1 hx]; exact ⟨h1, swp_S hk hl hi⟩, fun c hc => by rw [lcomb_one]; exact h i c hi hc⟩
theorem RowSwap.symm {p : Int} {S : Nat → Prop} {k l : Nat} {a b : Nat → Nat → PS} (hk : S k) (hl : S l) (h : RowSwap p S k l a b) : RowSwap p S k l b a := fun i j hi hj => by
  have := h (swp k l i) j (swp_S hk hl hi) hj
  rw [swp_swp] at this
  exact this.symm

/-- One elementary step of a matrix of n rows and columns. -/
inductive El (p : Int) (n : Nat) (a b : Nat → Nat → PS) : Prop where
  | rowadd (k : Nat) (q : Nat → PS) (hk : k < n) (hq : ∀ i, i < n → ∃ N, Fin0 (q i) N) (h : RowAdd p (· < n) k q a b)
  | coladd (k : Nat) (q : Nat → PS) (hk : k < n) (hq : ∀ i, i < n → ∃ N, Fin0 (q i) N) (h : RowAdd p (· < n) k q (fun i j => a j i) (fun i j => b j i))
  | rowswap (k l : Nat) (hk : k < n) (hl : l < n) (h : RowSwap p (· < n) k l a b)
  | colswap (k l : Nat) (hk : k < n) (hl : l < n) (h : RowSwap p (· < n) k l (fun i j => a j i) (fun i j => b j i))
theorem El.symm {p : Int} {n : Nat} {a b : Nat → Nat → PS} (h : El p n a b) : El p n b a := by
  cases h with
  | rowadd k q hk hq h => exact .rowadd k _ hk (fun i hi => (hq i hi).imp fun N hN => hN.psmul _) (h.symm hk)
  | coladd k q hk hq h => exact .coladd k _ hk (fun i hi => (hq i hi).imp fun N hN => hN.psmul _) (RowAdd.symm (S := (· < n)) hk h)
  | rowswap k l hk hl h => exact .rowswap k l hk hl (h.symm hk hl)
  | colswap k l hk hl h => exact .colswap k l hk hl (RowSwap.symm (S := (· < n)) hk hl h)
/-- Steps one after the other. -/
inductive Eqv (p : Int) (n : Nat) (a : Nat → Nat → PS) : (Nat → Nat → PS) → Prop where
  | refl : Eqv p n a a
  | step {b c : Nat → Nat → PS} (h : Eqv p n a b) (e : El p n b c) : Eqv p n a c

theorem Dv.congr {p : Int} {d a b : PS} (h : Dv p d a) (e : Eqp p b a) : Dv p d b := by
  obtain ⟨q, N, hq, eq⟩ := h
  exact ⟨q, N, hq, e.trans eq⟩
theorem pone_Fin0 : Fin0 pone 1 := fun i hi => by unfold pone; rw [if_neg (by omega)]
theorem Dv.add {p : Int} {d a b : PS} (ha : Dv p d a) (hb : Dv p d b) : Dv p d (padd a b) := Dv.comb pone_Fin0 ha hb (Eqp.of_eq (by rw [pone_mul]))
theorem Dv.mul {p : Int} {d a q : PS} {N : Nat} (hq : Fin0 q N) (ha : Dv p d a) : Dv p d (pmul q a) := Dv.comb hq ha (Dv.zero d) (Eqp.of_eq (by rw [padd_pzero]))
theorem Dv.trans {p : Int} {d a b : PS} (h : Dv p d a) (k : Dv p a b) : Dv p d b := by
  obtain ⟨q, N, hq, e⟩ := k
  exact (h.mul hq).congr e
theorem Dv.smul {p : Int} {d a : PS} (c : Int) (ha : Dv p d a) : Dv p d (psmul c a) := by
  have := ha.mul (q := psmul c pone) (pone_Fin0.psmul c)
  rwa [psmul_pmul, pone_mul] at this
theorem El.dv {p : Int} {n k : Nat} {d : PS} {a b : Nat → Nat → PS} (h : El p n a b) (ha : AllMinK (Dv p d) (· < n) k a) : AllMinK (Dv p d) (· < n) k b := by
  have key : ∀ {a b : Nat → Nat → PS}, RowsOf p (· < n) (fun q => ∃ N, Fin0 q N) a b → AllMinK (Dv p d) (· < n) k a → AllMinK (Dv p d) (· < n) k b := fun hb ha =>
    ha.rows (K := fun q => ∃ N, Fin0 q N) (fun _ _ => Dv.add) (Dv.zero d) (fun _ _ ⟨_, hN⟩ => Dv.mul hN) (p := p) (fun _ _ h e => h.congr e) hb
  cases h with
  | rowadd r q hk hq h => exact key (h.rows hk ⟨1, pone_Fin0⟩ fun i hi _ => hq i hi) ha
  | coladd r q hk hq h => exact (key (RowAdd.rows (S := (· < n)) h hk ⟨1, pone_Fin0⟩ fun i hi _ => hq i hi) ha.flip).flip
  | rowswap r l hk hl h => exact key (h.rows hk hl ⟨1, pone_Fin0⟩) ha
  | colswap r l hk hl h => exact (key (RowSwap.rows (S := (· < n)) h hk hl ⟨1, pone_Fin0⟩) ha.flip).flip
theorem Eqv.dv {p : Int} {n k : Nat} {d : PS} {a b : Nat → Nat → PS} (h : Eqv p n a b) : AllMinK (Dv p d) (· < n) k a ↔ AllMinK (Dv p d) (· < n) k b := by
  induction h with
  | refl => exact Iff.rfl
  | step _ e ih => exact ⟨fun h => e.dv (ih.1 h), fun h => ih.2 (e.symm.dv h)⟩

/-! ## how long the determinants of the part from a row and column on are -/
def Part (lo n i : Nat) : Prop := lo ≤ i ∧ i < n
def Bnd (p : Int) (N lo n : Nat) (a : Nat → Nat → PS) : Prop := AllMin (Ln p N) (Part lo n) a
theorem Bnd.flip {p : Int} {N lo n : Nat} {a : Nat → Nat → PS} (h : Bnd p N lo n a) : Bnd p N lo n (fun i j => a j i) := AllMin.flip h
theorem Bnd.more {p : Int} {N lo n : Nat} {a : Nat → Nat → PS} (h : Bnd p N lo n a) : Bnd p N (lo + 1) n a := fun R C hR hC => h R C (fun i hi => ⟨Nat.le_of_succ_le (hR i hi).1, (hR i hi).2⟩) (fun i hi => ⟨Nat.le_of_succ_le (hC i hi).1, (hC i hi).2⟩)
theorem det_single (a : Nat → Nat → PS) (i j : Nat) : det a [i] [j] = a i j := by
  show psb (pmul (a i j) pone) pzero = a i j
  rw [psb_zero, pmul_one]
theorem Bnd.entry {p : Int} {N lo n i j : Nat} {a : Nat → Nat → PS} (h : Bnd p N lo n a) (hi : Part lo n i) (hj : Part lo n j) : Ln p N (a i j) := by
  have := h [i] [j] (by simpa using hi) (by simpa using hj) rfl
  rwa [det_single] at this
theorem Bnd.rows {p : Int} {N lo n : Nat} {a b : Nat → Nat → PS} (hb : RowsOf p (Part lo n) (fun q => q = pone) a b) (h : Bnd p N lo n a) : Bnd p N lo n b := AllMin.of fun k =>
  (AllMin.K h k).rows (Q := Ln p N) (K := fun q => q = pone) (fun _ _ => Ln.add) (Ln.zero p N) (fun q f hq hf => by rw [hq, pone_mul]; exact hf) (p := p) (fun _ _ h e => h.eqp e) hb
theorem Bnd.eqp {p : Int} {N lo n : Nat} {a b : Nat → Nat → PS} (hb : ∀ i j, Part lo n i → Part lo n j → Eqp p (b i j) (a i j)) (h : Bnd p N lo n a) : Bnd p N lo n b := AllMin.of fun k =>
  (AllMin.K h k).eqp (p := p) (fun _ _ h e => h.eqp e) hb
theorem det_Ln {p : Int} {M : Nat} {a : Nat → Nat → PS} {S : Nat → Prop} (h : ∀ i j, S i → S j → Ln p M (a i j)) : ∀ (R C : List Nat), (∀ i ∈ R, S i) → (∀ c ∈ C, S c) → Ln p (R.length * M + 1) (det a R C)
  | [], _, _, _ => fun i hi => by rw [det_nil]; unfold pone; rw [if_neg (by simp at hi; omega)]; exact Int.zero_emod p
  | r :: R, C, hR, hC => by
    rw [det_cons]
    refine alt_close (Q := Ln p ((R.length + 1) * M + 1)) (fun _ _ => Ln.psb) (Ln.zero p _) C _ fun c X _ hc hX => ?_
    refine (h r c (hR r (by simp)) (hC c hc)).mul (det_Ln h R X (fun i hi => hR i (by simp [hi])) fun x hx => hC x (hX x hx)) ?_
    rw [Nat.add_mul]; omega
/-- Multiples of the first row taken from the others, so that what is left of the first column is shorter than the corner. -/
theorem Bnd.clearR {p : Int} (hp : Pr p) {N k n d M : Nat} {a b : Nat → Nat → PS} {q : Nat → PS} (hk : k < n) (h : Bnd p N k n a) (hq : RowAdd p (Part k n) k q a b) (hP : a k k d % p ≠ 0) (hPl : Ln p (d + 1) (a k k))
    (hc : ∀ i, k < i → i < n → Ln p d (b i k)) (hM : ∀ i j, Part k n i → Part k n j → Ln p M (b i j)) : Bnd p N k n b := by
  have hkk : Part k n k := ⟨Nat.le_refl k, hk⟩
  have hk0 : ∀ (q' : Nat → PS), RowAdd p (Part k n) k q' a b → Bnd p N k n (fun i j => if i = k then a k j else padd (a i j) (pmul (q' i) (a k j))) → Bnd p N k n b := fun q' h1 h2 => h2.eqp fun i j hi hj => h1 i j hi hj
  -- the exact matrix
  obtain ⟨q', hq'k, hq'⟩ : ∃ q' : Nat → PS, q' k = pzero ∧ RowAdd p (Part k n) k q' a b := ⟨fun i => if i = k then pzero else q i, if_pos rfl, fun i j hi hj => by
    have := hq i j hi hj
    by_cases e : i = k
    · rw [if_pos e] at this ⊢; exact this
    · rw [if_neg e] at this ⊢
      show Eqp p (b i j) (padd (a i j) (pmul (if i = k then pzero else q i) (a k j)))
      rw [if_neg e]; exact this⟩
  clear hk0
  obtain ⟨b', hb'⟩ : ∃ b' : Nat → Nat → PS, ∀ i, b' i = fun c => padd (a i c) (pmul (q' i) (a k c)) := ⟨_, fun i => rfl⟩
  have hbb : ∀ i j, Part k n i → Part k n j → Eqp p (b i j) (b' i j) := fun i j hi hj => by
    have := hq' i j hi hj
    rw [hb']
    by_cases e : i = k
    · subst e
      rw [if_pos rfl] at this
      show Eqp p (b i j) (padd (a i j) (pmul (q' i) (a i j)))
      rw [hq'k, pzero_mul, padd_pzero]; exact this
    · rwa [if_neg e] at this
  have hbk : b' k = a k := by rw [hb', hq'k]; funext c; rw [pzero_mul, padd_pzero]
  refine Bnd.eqp (fun i j hi hj => hbb i j hi hj) ?_
  have hwith : ∀ R C : List Nat, (∀ i ∈ R, Part k n i) → (∀ c ∈ C, Part k n c) → R.length + 1 = C.length → Ln p N (det b' (k :: R) C) := fun R C hR hC hl => by
    have e : det b' (k :: R) C = det a (k :: R) C := by
      have := detR_less (a k) a b' q' R (fun i _ => hb' i) [a k] C (by simp)
      unfold det
      rw [List.map_cons, List.map_cons, hbk]
      exact this
    rw [e]
    exact h (k :: R) C (fun i hi => by
      rcases List.mem_cons.1 hi with rfl | hi
      · exact hkk
      · exact hR i hi) hC (by simpa using hl)
  intro R C hR hC hl
  by_cases hkR : k ∈ R
  · obtain ⟨A, B, e⟩ := List.append_of_mem hkR
    have hperm : R.Perm (k :: (A ++ B)) := e ▸ List.perm_middle
    obtain ⟨s, _, hs⟩ := det_perm b' hperm
    rw [hs C]
    refine Ln.smul s (hwith (A ++ B) C (fun i hi => hR i (hperm.mem_iff.2 (by simp [hi]))) hC ?_)
    have := hperm.length_eq
    simp only [List.length_cons] at this
    omega
  · have hfin : Ln p (R.length * M + 1) (det b' R C) := (det_Ln (S := Part k n) hM R C hR hC).eqp (det_eqp R C fun i hi c hc => (hbb i c (hR i hi) (hC c hc)).symm)
    refine Ln.top hp (f := b' k k) (d := d) (N := R.length * M + 1) (by rw [hbk]; exact hPl) (by rw [hbk]; exact hP) hfin ?_
    have e := det_first b' k k R C hl
    have e2 : pmul (b' k k) (det b' R C) = padd (det b' (k :: R) (k :: C)) (alt (fun y Y => pmul (b' y k) (det b' (k :: Y) C)) R) := by
      rw [e]; funext m; show _ = _ + -1 * _ + _; omega
    rw [e2]
    refine Ln.add ((hwith R (k :: C) hR (fun c hc => by
      rcases List.mem_cons.1 hc with rfl | hc
      · exact hkk
      · exact hC c hc) (by simp [hl])).le (by omega)) ?_
    refine alt_close (Q := Ln p (d + N)) (fun _ _ => Ln.psb) (Ln.zero p _) R _ fun y Y hY hy hYR => ?_
    have hyp := hR y hy
    have hyk : k < y := Nat.lt_of_le_of_ne hyp.1 fun e => hkR (e ▸ hy)
    have h1 : Ln p d (b' y k) := (hc y hyk hyp.2).eqp (hbb y k hyp hkk).symm
    exact h1.mul (hwith Y C (fun i hi => hR i (hYR i hi)) hC (by omega)) (by omega)
theorem Bnd.clearC {p : Int} (hp : Pr p) {N k n d M : Nat} {a b : Nat → Nat → PS} {q : Nat → PS} (hk : k < n) (h : Bnd p N k n a) (hq : RowAdd p (Part k n) k q (fun i j => a j i) (fun i j => b j i)) (hP : a k k d % p ≠ 0) (hPl : Ln p (d + 1) (a k k))
    (hc : ∀ i, k < i → i < n → Ln p d (b k i)) (hM : ∀ i j, Part k n i → Part k n j → Ln p M (b i j)) : Bnd p N k n b :=
  (Bnd.clearR hp (a := fun i j => a j i) (b := fun i j => b j i) hk h.flip hq hP hPl hc fun i j hi hj => hM j i hj hi).flip
/-- The beginning: entries of at most two coefficients. -/
theorem det_two {p : Int} {a : Nat → Nat → PS} {S : Nat → Prop} (h : ∀ i j, S i → S j → Ln p 2 (a i j)) : ∀ (R C : List Nat), (∀ i ∈ R, S i) → (∀ c ∈ C, S c) → Ln p (R.length + 1) (det a R C)
  | [], _, _, _ => fun i hi => by rw [det_nil]; unfold pone; rw [if_neg (by simp at hi; omega)]; exact Int.zero_emod p
  | r :: R, C, hR, hC => by
    rw [det_cons]
    refine alt_close (Q := Ln p (R.length + 1 + 1)) (fun _ _ => Ln.psb) (Ln.zero p _) C _ fun c X _ hc hX => ?_
    exact (h r c (hR r (by simp)) (hC c hc)).mul (det_two h R X (fun i hi => hR i (by simp [hi])) fun x hx => hC x (hX x hx)) (by omega)
theorem Bnd.start {p : Int} {n : Nat} {a : Nat → Nat → PS} (h : ∀ i j, i < n → j < n → Ln p 2 (a i j)) : Bnd p (n + 1) 0 n a := fun R C hR hC hl => by
  by_cases hd : R.Nodup
  · have := nodup_bound n R hd fun x hx => (hR x hx).2
    exact (det_two (S := Part 0 n) (fun i j hi hj => h i j hi.2 hj.2) R C hR hC).le (by omega)
  · rw [det_dup a hd]; exact Ln.zero p _
/-- The characteristic polynomial is not 0. -/
theorem det_lead {p : Int} {a : Nat → Nat → PS} {n : Nat} (h2 : ∀ i j, i < n → j < n → Ln p 2 (a i j)) (h1 : ∀ i j, i < n → j < n → i ≠ j → Ln p 1 (a i j)) (hd : ∀ i, i < n → a i i 1 % p = 1 % p) :
    ∀ (R : List Nat), R.Nodup → (∀ i ∈ R, i < n) → det a R R R.length % p = 1 % p
  | [], _, _ => rfl
  | r :: R, hn, hR => by
    have hnd := List.nodup_cons.1 hn
    rw [det_cons]
    have hr := hR r (by simp)
    have hRn : ∀ i ∈ R, i < n := fun i hi => hR i (by simp [hi])
    have hz : Ln p (R.length + 1) (alt (fun x X => pmul (a r x) (det a R (r :: X))) R) := by
      refine alt_close (Q := Ln p (R.length + 1)) (fun _ _ => Ln.psb) (Ln.zero p _) R _ fun c X _ hc hX => ?_
      refine (h1 r c hr (hRn c hc) fun e => hnd.1 (e ▸ hc)).mul (det_two (S := (· < n)) h2 R (r :: X) hRn fun x hx => ?_) (by omega)
      rcases List.mem_cons.1 hx with rfl | hx
      · exact hr
      · exact hRn x (hX x hx)
    show (pmul (a r r) (det a R R) (R.length + 1) + -1 * alt (fun x X => pmul (a r x) (det a R (r :: X))) R (R.length + 1)) % p = 1 % p
    rw [Int.add_emod, emod_mul_zero_right (hz _ (Nat.le_refl _)), Int.add_zero, Int.emod_emod_of_dvd _ (Int.dvd_refl p)]
    have hl := det_two (S := (· < n)) h2 R R hRn hRn
    have : pmul (a r r) (det a R R) (R.length + 1) % p = a r r 1 * det a R R (R.length + 1 - 1) % p := sumN_one_mod (by omega) fun j hj hne => by
      by_cases e : 2 ≤ j
      · exact emod_mul_zero_left (h2 r r hr hr j e)
      · exact emod_mul_zero_right (hl _ (by omega))
    rw [this, Nat.add_sub_cancel, Int.mul_emod, hd r hr, det_lead h2 h1 hd R hnd.2 hRn, ← Int.mul_emod]; rfl
theorem char_ne {p : Int} (hp : Pr p) {a : Nat → Nat → PS} {n : Nat} (h2 : ∀ i j, i < n → j < n → Ln p 2 (a i j)) (h1 : ∀ i j, i < n → j < n → i ≠ j → Ln p 1 (a i j)) (hd : ∀ i, i < n → a i i 1 % p = 1 % p) : ¬ AllMinK (Dv p pzero) (· < n) n a := fun h => by
  obtain ⟨q, N, _, e⟩ := h (List.range n) (List.range n) (fun i hi => List.mem_range.1 hi) (fun i hi => List.mem_range.1 hi) (List.length_range) (List.length_range)
  have h3 := det_lead h2 h1 hd (List.range n) List.nodup_range fun i hi => List.mem_range.1 hi
  rw [pmul_pzero] at e
  have h4 := e (List.range n).length
  rw [h3] at h4
  have hp2 := hp.pos
  have : (1 : Int) % p = 0 % p := h4
  rw [Int.emod_eq_of_lt (by omega) (by omega), Int.zero_emod] at this
  omega
/-- A row of zeros. -/
theorem zero_row {p : Int} {a : Nat → Nat → PS} {n k : Nat} (hk : k < n) (h : ∀ j, j < n → Eqp p (a k j) pzero) : AllMinK (Dv p pzero) (· < n) n a := fun R C hR hC h1 h2 => by
  by_cases hd : R.Nodup
  · have hkR : k ∈ R := Classical.byContradiction fun hn => by
      have := nodup_bound n (k :: R) (List.nodup_cons.2 ⟨hn, hd⟩) fun x hx => by
        rcases List.mem_cons.1 hx with rfl | hx
        · exact hk
        · exact hR x hx
      simp at this; omega
    obtain ⟨A, B, e⟩ := List.append_of_mem hkR
    obtain ⟨s, _, hs⟩ := det_perm a (e ▸ List.perm_middle : R.Perm (k :: (A ++ B)))
    rw [hs C]
    refine Dv.smul s ?_
    rw [det_cons]
    refine alt_close (Q := Dv p pzero) (fun _ _ h1 h2 => h1.add (h2.smul (-1))) (Dv.zero _) C _ fun c X _ hc _ => ?_
    exact (Dv.zero pzero).congr ((Eqp.mul (h c (hC c hc)) (Eqp.refl _)).trans (Eqp.of_eq (pzero_mul _)))
  · rw [det_dup a hd]; exact Dv.zero _
end Go.Proofs.Ytnkkkgaojhkniab

/- The way to the diagonal form of a matrix of polynomials, as the program goes it. No program in sight. -/
namespace Go.Proofs.Ytnkkkgaojhkniab

abbrev MxL := Nat → Nat → List Int
def cfm (M : MxL) : Nat → Nat → PS := fun i j => cf (M i j)
def swpM (k x y : Nat) (M : MxL) : MxL := fun i j => M (swp k x i) (swp k y j)
def rowPh (p : Int) (n k : Nat) (M : MxL) : MxL := fun i j =>
  if k < i ∧ i < n ∧ k ≤ j ∧ j < n then addp p (M i j) (mulp p (divp p (M i k) (M k k)).1 (M k j)) (-1) else M i j
def colPh (p : Int) (n k : Nat) (M : MxL) : MxL := fun i j =>
  if k < j ∧ j < n ∧ k ≤ i ∧ i < n then addp p (M i j) (mulp p (divp p (M k j) (M k k)).1 (M i k)) (-1) else M i j
def clrM (p : Int) (n k : Nat) (M : MxL) : MxL := colPh p n k (rowPh p n k M)
def spoil (p : Int) (n k bad : Nat) (M : MxL) : MxL := fun i j => if i = k ∧ k ≤ j ∧ j < n then addp p (M k j) (M bad j) 1 else M i j
def Clean (p : Int) (n k : Nat) (M : MxL) : Prop := (∀ i, k < i → i < n → (divp p (M i k) (M k k)).2 = []) ∧ ∀ j, k < j → j < n → (divp p (M k j) (M k k)).2 = []

/-- What the way keeps ahead of stage k. -/
structure Sm (p : Int) (n : Nat) (A : Nat → Nat → PS) (k : Nat) (M : MxL) : Prop where
  po : ∀ i j, i < n → j < n → Po p (M i j)
  eqv : Eqv p n A (cfm M)
  bnd : Bnd p (n + 1) k n (cfm M)
  low : ∀ i, i < k → ∀ j, j < n → j ≠ i → M i j = [] ∧ M j i = []
  piv : ∀ i, i < k → M i i ≠ []
  div : ∀ i, i < k → ∀ a b, Part i n a → Part i n b → Dv p (cf (M i i)) (cf (M a b))
theorem Sm.len {p : Int} {n : Nat} {A : Nat → Nat → PS} {k : Nat} {M : MxL} (h : Sm p n A k M) {i j : Nat} (hi : Part k n i) (hj : Part k n j) : (M i j).length ≤ n + 1 :=
  Ln.len (h.po i j hi.2 hj.2) (h.bnd.entry hi hj)

theorem swp_lt {k x i : Nat} (hx : k ≤ x) (h : i < k) : swp k x i = i := by unfold swp; rw [if_neg (by omega), if_neg (by omega)]
theorem swp_part {k x n i : Nat} (hx : Part k n x) (hi : Part k n i) : Part k n (swp k x i) := by unfold swp Part at *; split <;> (try split) <;> omega
theorem swp_ge {k x n s i : Nat} (hs : s ≤ k) (hx : Part k n x) (hi : Part s n i) : Part s n (swp k x i) := by unfold swp Part at *; split <;> (try split) <;> omega
theorem swp_self (k i : Nat) : swp k k i = i := by
  unfold swp; split
  · omega
  · rfl
theorem Sm.swap {p : Int} {n : Nat} {A : Nat → Nat → PS} {k : Nat} {M : MxL} (h : Sm p n A k M) {x y : Nat} (hx : Part k n x) (hy : Part k n y) : Sm p n A k (swpM k x y M) := by
  have hk : k < n := by unfold Part at hx; omega
  refine ⟨fun i j hi hj => ?_, ?_, ?_, fun i hi j hj hne => ?_, fun i hi => ?_, fun i hi a b ha hb => ?_⟩
  · exact h.po _ _ (swp_S (S := (· < n)) hk hx.2 hi) (swp_S (S := (· < n)) hk hy.2 hj)
  · exact (h.eqv.step (.rowswap k x hk hx.2 (b := fun i j => cf (M (swp k x i) j)) fun i j _ _ => Eqp.refl _)).step (.colswap k y hk hy.2 fun i j _ _ => Eqp.refl _)
  · have h1 := Bnd.rows (b := fun i j => cf (M (swp k x i) j)) (RowSwap.rows (S := Part k n) (k := k) (l := x) (fun i j _ _ => Eqp.refl _) ⟨Nat.le_refl k, hk⟩ hx rfl) h.bnd
    exact (Bnd.rows (b := fun i j => cf (M (swp k x j) (swp k y i))) (RowSwap.rows (S := Part k n) (k := k) (l := y) (fun i j _ _ => Eqp.refl _) ⟨Nat.le_refl k, hk⟩ hy rfl) h1.flip).flip
  · show M (swp k x i) (swp k y j) = [] ∧ M (swp k x j) (swp k y i) = []
    rw [swp_lt hx.1 hi, swp_lt hy.1 hi]
    have hyj : swp k y j ≠ i := fun e => hne (by have := swp_swp k y j; rw [e, swp_lt hy.1 hi] at this; exact this.symm)
    have hxj : swp k x j ≠ i := fun e => hne (by have := swp_swp k x j; rw [e, swp_lt hx.1 hi] at this; exact this.symm)
    exact ⟨(h.low i hi _ (swp_S (S := (· < n)) hk hy.2 hj) hyj).1, (h.low i hi _ (swp_S (S := (· < n)) hk hx.2 hj) hxj).2⟩
  · show M (swp k x i) (swp k y i) ≠ []
    rw [swp_lt hx.1 hi, swp_lt hy.1 hi]; exact h.piv i hi
  · show Dv p (cf (M (swp k x i) (swp k y i))) (cf (M (swp k x a) (swp k y b)))
    rw [swp_lt hx.1 hi, swp_lt hy.1 hi]; exact h.div i hi _ _ (swp_ge (by omega) hx ha) (swp_ge (by omega) hy hb)

/-- The part ahead of stage k is left alone, and what stands behind it is put together of what stood there. -/
theorem less_eqp {p : Int} (hp : Pr p) (a q b : List Int) : Eqp p (cf (addp p a (mulp p q b) (-1))) (padd (cf a) (pmul (psmul (-1) (cf q)) (cf b))) :=
  (addp_eqp p a _ (-1)).trans (Eqp.add (Eqp.refl _) ((Eqp.smul (mulp_eqp p q b)).trans (Eqp.of_eq (psmul_pmul _ _ _).symm)))
theorem less_nil {p : Int} (hp : Pr p) {a : List Int} (ha : Po p a) (q : List Int) : addp p a (mulp p q []) (-1) = a := by
  have hp2 := hp.pos
  refine (addp_Po (by omega) _ _ _).ext ha fun i => ?_
  rw [addp_cf, mulp_nil_right, cf_nil, Int.mul_zero, Int.add_zero, Int.emod_eq_of_lt (ha.md i).1 (ha.md i).2]
theorem less_rest {p : Int} (hp : Pr p) {a b : List Int} (ha : Po p a) (hb : Po p b) (hne : b ≠ []) : addp p a (mulp p (divp p a b).1 b) (-1) = (divp p a b).2 := by
  have hp2 := hp.pos
  obtain ⟨h1, h2, h3, h4⟩ := divp_spec hp ha hb hne
  refine (addp_Po (by omega) _ _ _).eq_of_eqp h2 ((less_eqp hp a _ b).trans ?_)
  refine (Eqp.add h4 (Eqp.refl _)).trans (Eqp.of_eq ?_)
  rw [psmul_pmul]
  funext n; show _ + _ + -1 * _ = _; omega
theorem rowPh_pos {p : Int} {n k : Nat} {M : MxL} {i j : Nat} (h : k < i ∧ i < n ∧ k ≤ j ∧ j < n) : rowPh p n k M i j = addp p (M i j) (mulp p (divp p (M i k) (M k k)).1 (M k j)) (-1) := if_pos h
theorem rowPh_neg {p : Int} {n k : Nat} {M : MxL} {i j : Nat} (h : ¬ (k < i ∧ i < n ∧ k ≤ j ∧ j < n)) : rowPh p n k M i j = M i j := if_neg h
theorem rowPh_row {p : Int} {n k : Nat} {M : MxL} {j : Nat} : rowPh p n k M k j = M k j := if_neg (by omega)
theorem colPh_pos {p : Int} {n k : Nat} {M : MxL} {i j : Nat} (h : k < j ∧ j < n ∧ k ≤ i ∧ i < n) : colPh p n k M i j = addp p (M i j) (mulp p (divp p (M k j) (M k k)).1 (M i k)) (-1) := if_pos h
theorem colPh_neg {p : Int} {n k : Nat} {M : MxL} {i j : Nat} (h : ¬ (k < j ∧ j < n ∧ k ≤ i ∧ i < n)) : colPh p n k M i j = M i j := if_neg h
theorem colPh_flip (p : Int) (n k : Nat) (M : MxL) : colPh p n k M = fun i j => rowPh p n k (fun a b => M b a) j i := rfl
theorem Eqv.flip {p : Int} {n : Nat} {a b : Nat → Nat → PS} (h : Eqv p n a b) : Eqv p n (fun i j => a j i) (fun i j => b j i) := by
  induction h with
  | refl => exact .refl
  | step _ e ih =>
    refine ih.step ?_
    cases e with
    | rowadd k q hk hq h => exact .coladd k q hk hq h
    | coladd k q hk hq h => exact .rowadd k q hk hq h
    | rowswap k l hk hl h => exact .colswap k l hk hl h
    | colswap k l hk hl h => exact .rowswap k l hk hl h
/-- Rows and columns exchanged. -/
theorem Sm.flip {p : Int} {n : Nat} {A : Nat → Nat → PS} {k : Nat} {M : MxL} (h : Sm p n A k M) : Sm p n (fun i j => A j i) k (fun i j => M j i) :=
  ⟨fun i j hi hj => h.po j i hj hi, h.eqv.flip, h.bnd.flip, fun i hi j hj hne => ⟨(h.low i hi j hj hne).2, (h.low i hi j hj hne).1⟩, h.piv, fun i hi a b ha hb => h.div i hi b a hb ha⟩
theorem Sm.row {p : Int} (hp : Pr p) {n : Nat} {A : Nat → Nat → PS} {k : Nat} {M : MxL} (h : Sm p n A k M) (hk : k < n) (hne : M k k ≠ []) : Sm p n A k (rowPh p n k M) := by
  have hp2 := hp.pos
  have hkk : Part k n k := ⟨Nat.le_refl k, hk⟩
  have hpk := h.po k k hk hk
  have hl0 : 0 < (M k k).length := List.length_pos_iff.2 hne
  have hrow : RowAdd p (· < n) k (fun i => if k < i then psmul (-1) (cf (divp p (M i k) (M k k)).1) else pzero) (cfm M) (cfm (rowPh p n k M)) := fun i j hi hj => by
    show Eqp p (cf (rowPh p n k M i j)) (if i = k then cf (M k j) else padd (cf (M i j)) (pmul (if k < i then psmul (-1) (cf (divp p (M i k) (M k k)).1) else pzero) (cf (M k j))))
    by_cases e : i = k
    · subst e; rw [if_pos rfl, rowPh_row]; exact Eqp.refl _
    · rw [if_neg e]
      by_cases h1 : k < i
      · rw [if_pos h1]
        by_cases h2 : k ≤ j
        · rw [rowPh_pos ⟨h1, hi, h2, hj⟩]; exact less_eqp hp _ _ _
        · rw [rowPh_neg (by omega), (h.low j (by omega) k hk (by omega)).2, cf_nil_zero, pmul_pzero, padd_pzero]; exact Eqp.refl _
      · rw [if_neg h1, rowPh_neg (by omega), pzero_mul, padd_pzero]; exact Eqp.refl _
  have hpo : ∀ i j, i < n → j < n → Po p (rowPh p n k M i j) := fun i j hi hj => by
    by_cases e : k < i ∧ i < n ∧ k ≤ j ∧ j < n
    · rw [rowPh_pos e]; exact addp_Po (by omega) _ _ _
    · rw [rowPh_neg e]; exact h.po i j hi hj
  refine ⟨hpo, ?_, ?_, fun i hi j hj hji => ?_, fun i hi => ?_, fun i hi a b ha hb => ?_⟩
  · refine h.eqv.step (.rowadd k _ hk (fun i hi => ?_) hrow)
    show ∃ N, Fin0 (if k < i then psmul (-1) (cf (divp p (M i k) (M k k)).1) else pzero) N
    split
    · exact ⟨_, (cf_Fin0 _).psmul _⟩
    · exact ⟨0, pzero_Fin0⟩
  · refine Bnd.clearR hp (a := cfm M) (d := (M k k).length - 1) (M := 4 * n + 8) hk h.bnd (fun i j hi hj => hrow i j hi.2 hj.2) ?_ ?_ (fun i h1 h2 => ?_) fun i j hi hj => ?_
    · show cf (M k k) ((M k k).length - 1) % p ≠ 0
      have := hpk.lead hne
      rw [Int.emod_eq_of_lt (hpk.md _).1 (hpk.md _).2]; omega
    · exact (Ln.of_list p (M k k)).le (by omega)
    · show Ln p _ (cf (rowPh p n k M i k))
      rw [rowPh_pos ⟨h1, h2, Nat.le_refl k, hk⟩, less_rest hp (h.po i k h2 hk) hpk hne]
      have := (divp_spec hp (h.po i k h2 hk) hpk hne).2.2.1
      exact (Ln.of_list p _).le (by omega)
    · show Ln p _ (cf (rowPh p n k M i j))
      refine (Ln.of_list p _).le ?_
      by_cases e : k < i ∧ i < n ∧ k ≤ j ∧ j < n
      · rw [rowPh_pos e]
        have l1 := addp_length p (M i j) (mulp p (divp p (M i k) (M k k)).1 (M k j)) (-1)
        have l2 : (mulp p (divp p (M i k) (M k k)).1 (M k j)).length ≤ (divp p (M i k) (M k k)).1.length + (M k j).length := mkp_length _ _
        have l3 := divp_quot_le p (M i k) (M k k)
        have l4 := h.len hi hkk
        have l5 := h.len hkk hj
        have l6 := h.len hi hj
        omega
      · rw [rowPh_neg e]; have := h.len hi hj; omega
  · rw [rowPh_neg (by omega), rowPh_neg (by omega)]; exact h.low i hi j hj hji
  · rw [rowPh_neg (by omega)]; exact h.piv i hi
  · rw [rowPh_neg (by omega : ¬ (k < i ∧ i < n ∧ k ≤ i ∧ i < n))]
    by_cases e : k < a ∧ a < n ∧ k ≤ b ∧ b < n
    · rw [rowPh_pos e]
      refine Dv.congr ?_ (less_eqp hp _ _ _)
      exact (h.div i hi a b ha hb).add ((h.div i hi k b ⟨by omega, hk⟩ hb).mul ((cf_Fin0 _).psmul _))
    · rw [rowPh_neg e]; exact h.div i hi a b ha hb
theorem Sm.col {p : Int} (hp : Pr p) {n : Nat} {A : Nat → Nat → PS} {k : Nat} {M : MxL} (h : Sm p n A k M) (hk : k < n) (hne : M k k ≠ []) : Sm p n A k (colPh p n k M) :=
  (h.flip.row hp hk hne).flip
theorem Sm.clear {p : Int} (hp : Pr p) {n : Nat} {A : Nat → Nat → PS} {k : Nat} {M : MxL} (h : Sm p n A k M) (hk : k < n) (hne : M k k ≠ []) : Sm p n A k (clrM p n k M) :=
  (h.row hp hk hne).col hp hk (by rw [rowPh_row]; exact hne)
theorem clr_corner (p : Int) (n k : Nat) (M : MxL) : clrM p n k M k k = M k k := by
  unfold clrM; rw [colPh_neg (by omega), rowPh_row]
theorem Sm.clr_col {p : Int} (hp : Pr p) {n : Nat} {A : Nat → Nat → PS} {k : Nat} {M : MxL} (h : Sm p n A k M) (hk : k < n) (hne : M k k ≠ []) {i : Nat} (h1 : k < i) (h2 : i < n) : clrM p n k M i k = (divp p (M i k) (M k k)).2 := by
  unfold clrM; rw [colPh_neg (by omega), rowPh_pos ⟨h1, h2, Nat.le_refl k, hk⟩, less_rest hp (h.po i k h2 hk) (h.po k k hk hk) hne]
theorem Sm.clr_row {p : Int} (hp : Pr p) {n : Nat} {A : Nat → Nat → PS} {k : Nat} {M : MxL} (h : Sm p n A k M) (hk : k < n) (hne : M k k ≠ []) {j : Nat} (h1 : k < j) (h2 : j < n) : clrM p n k M k j = (divp p (M k j) (M k k)).2 := by
  unfold clrM; rw [colPh_pos ⟨h1, h2, Nat.le_refl k, hk⟩, rowPh_row, rowPh_row, less_rest hp (h.po k j hk h2) (h.po k k hk hk) hne]
theorem addp_nil_one {p : Int} (hp : Pr p) {a : List Int} (ha : Po p a) : addp p [] a 1 = a := by
  have hp2 := hp.pos
  refine (addp_Po (by omega) _ _ _).ext ha fun i => ?_
  rw [addp_cf, cf_nil, Int.zero_add, Int.one_mul, Int.emod_eq_of_lt (ha.md i).1 (ha.md i).2]
theorem addp_one_nil {p : Int} (hp : Pr p) {a : List Int} (ha : Po p a) : addp p a [] 1 = a := by
  have hp2 := hp.pos
  refine (addp_Po (by omega) _ _ _).ext ha fun i => ?_
  rw [addp_cf, cf_nil, Int.mul_zero, Int.add_zero, Int.emod_eq_of_lt (ha.md i).1 (ha.md i).2]
theorem Sm.spoil {p : Int} (hp : Pr p) {n : Nat} {A : Nat → Nat → PS} {k : Nat} {M : MxL} (h : Sm p n A k M) {bad : Nat} (hk : k < bad) (hb : bad < n) : Sm p n A k (spoil p n k bad M) := by
  have hp2 := hp.pos
  have hkn : k < n := by omega
  have hone : ∀ a b : List Int, Eqp p (cf (addp p a b 1)) (padd (cf a) (pmul pone (cf b))) := fun a b => (addp_eqp p a b 1).trans (Eqp.of_eq (by rw [psmul_one, pone_mul]))
  have hpos : ∀ {i j}, (i = k ∧ k ≤ j ∧ j < n) → Go.Proofs.Ytnkkkgaojhkniab.spoil p n k bad M i j = addp p (M k j) (M bad j) 1 := fun h => if_pos h
  have hneg : ∀ {i j}, ¬ (i = k ∧ k ≤ j ∧ j < n) → Go.Proofs.Ytnkkkgaojhkniab.spoil p n k bad M i j = M i j := fun h => if_neg h
  have hrow : RowAdd p (· < n) bad (fun i => if i = k then pone else pzero) (cfm M) (cfm (Go.Proofs.Ytnkkkgaojhkniab.spoil p n k bad M)) := fun i j hi hj => by
    show Eqp p (cf (Go.Proofs.Ytnkkkgaojhkniab.spoil p n k bad M i j)) (if i = bad then cf (M bad j) else padd (cf (M i j)) (pmul (if i = k then pone else pzero) (cf (M bad j))))
    by_cases e : i = k
    · subst e
      rw [if_neg (by omega), if_pos rfl]
      by_cases h2 : i ≤ j
      · rw [hpos ⟨rfl, h2, hj⟩]; exact hone _ _
      · rw [hneg (by omega), (h.low j (by omega) bad hb (by omega)).2, cf_nil_zero, pmul_pzero, padd_pzero]; exact Eqp.refl _
    · rw [hneg (by omega), if_neg e]
      by_cases e2 : i = bad
      · subst e2; rw [if_pos rfl]; exact Eqp.refl _
      · rw [if_neg e2, pzero_mul, padd_pzero]; exact Eqp.refl _
  refine ⟨fun i j hi hj => ?_, ?_, ?_, fun i hi j hj hji => ?_, fun i hi => ?_, fun i hi a b ha hb' => ?_⟩
  · by_cases e : i = k ∧ k ≤ j ∧ j < n
    · rw [hpos e]; exact addp_Po (by omega) _ _ _
    · rw [hneg e]; exact h.po i j hi hj
  · refine h.eqv.step (.rowadd bad _ hb (fun i hi => ?_) hrow)
    show ∃ N, Fin0 (if i = k then pone else pzero) N
    split
    · exact ⟨1, pone_Fin0⟩
    · exact ⟨0, pzero_Fin0⟩
  · refine Bnd.rows (a := cfm M) (fun i hi => ?_) h.bnd
    by_cases e : i = k
    · subst e
      refine ⟨[(pone, i), (pone, bad)], fun x hx => ?_, fun c hc => ?_⟩
      · rcases List.mem_cons.1 hx with rfl | hx
        · exact ⟨rfl, hi⟩
        · rw [List.mem_singleton.1 hx]; exact ⟨rfl, by omega, hb⟩
      · rw [lcomb_two]
        show Eqp p (cf (Go.Proofs.Ytnkkkgaojhkniab.spoil p n i bad M i c)) (padd (cf (M i c)) (pmul pone (cf (M bad c))))
        rw [hpos ⟨rfl, hc⟩]; exact hone _ _
    · refine ⟨[(pone, i)], fun x hx => ?_, fun c hc => ?_⟩
      · rw [List.mem_singleton.1 hx]; exact ⟨rfl, hi⟩
      · rw [lcomb_one]
        show Eqp p (cf (Go.Proofs.Ytnkkkgaojhkniab.spoil p n k bad M i c)) (cf (M i c))
        rw [hneg (by omega)]; exact Eqp.refl _
  · rw [hneg (by omega), hneg (by omega)]; exact h.low i hi j hj hji
  · rw [hneg (by omega)]; exact h.piv i hi
  · rw [hneg (by omega : ¬ (i = k ∧ k ≤ i ∧ i < n))]
    by_cases e : a = k ∧ k ≤ b ∧ b < n
    · rw [hpos e]
      exact ((h.div i hi k b ⟨by omega, hkn⟩ hb').add ((h.div i hi bad b ⟨by omega, hb⟩ hb').mul pone_Fin0)).congr (hone _ _)
    · rw [hneg e]; exact h.div i hi a b ha hb'
/-- The stage is done. -/
theorem Sm.next {p : Int} (hp : Pr p) {n : Nat} {A : Nat → Nat → PS} {k : Nat} {M : MxL} (h : Sm p n A k M) (hk : k < n) (hne : M k k ≠ []) (h1 : ∀ i, k < i → i < n → M i k = []) (h2 : ∀ j, k < j → j < n → M k j = [])
    (h3 : ∀ i j, k < i → i < n → k < j → j < n → (divp p (M i j) (M k k)).2 = []) : Sm p n A (k + 1) M := by
  refine ⟨h.po, h.eqv, h.bnd.more, fun i hi j hj hji => ?_, fun i hi => ?_, fun i hi a b ha hb => ?_⟩
  · by_cases e : i = k
    · subst e
      by_cases e2 : j < i
      · exact ⟨(h.low j e2 i hk (by omega)).2, (h.low j e2 i hk (by omega)).1⟩
      · exact ⟨h2 j (by omega) hj, h1 j (by omega) hj⟩
    · exact h.low i (by omega) j hj hji
  · by_cases e : i = k
    · subst e; exact hne
    · exact h.piv i (by omega)
  · by_cases e : i = k
    · subst e
      have ha' : a = i ∨ i < a := by have := ha.1; omega
      have hb' : b = i ∨ i < b := by have := hb.1; omega
      rcases ha' with rfl | ha'
      · rcases hb' with rfl | hb'
        · exact Dv.refl _
        · rw [h2 b hb' hb.2, cf_nil_zero]; exact Dv.zero _
      · rcases hb' with rfl | hb'
        · rw [h1 a ha' ha.2, cf_nil_zero]; exact Dv.zero _
        · obtain ⟨_, _, _, e4⟩ := divp_spec hp (h.po a b ha.2 hb.2) (h.po i i hk hk) hne
          rw [h3 a b ha' ha.2 hb' hb.2, cf_nil_zero, padd_pzero] at e4
          exact ⟨_, _, cf_Fin0 _, e4⟩
    · exact h.div i (by omega) a b ha hb
/-- Something is left. -/
theorem Sm.alive {p : Int} {n : Nat} {A : Nat → Nat → PS} {k : Nat} {M : MxL} (h : Sm p n A k M) (hk : k < n) (hA : ¬ AllMinK (Dv p pzero) (· < n) n A) : ∃ i j, Part k n i ∧ Part k n j ∧ M i j ≠ [] :=
  Classical.byContradiction fun hno => hA (h.eqv.dv.2 (zero_row hk fun j hj => by
    have : M k j = [] := by
      by_cases e : j < k
      · exact (h.low j e k hk (by omega)).2
      · exact Classical.byContradiction fun hn => hno ⟨k, j, ⟨Nat.le_refl k, hk⟩, ⟨by omega, hj⟩, hn⟩
    show Eqp p (cf (M k j)) pzero
    rw [this, cf_nil_zero]; exact Eqp.refl _))

/-! ## the rounds of a stage come to an end -/
def Has (n k : Nat) (M : MxL) (L : Nat) : Prop := ∃ i j, Part k n i ∧ Part k n j ∧ M i j ≠ [] ∧ (M i j).length ≤ L
structure Small (n k : Nat) (M : MxL) (x y : Nat) : Prop where
  hx : Part k n x
  hy : Part k n y
  ne : M x y ≠ []
  least : ∀ i j, Part k n i → Part k n j → M i j ≠ [] → (M x y).length ≤ (M i j).length
  first : (x = k ∧ y = k) ∨ M k k = [] ∨ (M x y).length < (M k k).length
/-- How far the stage is: m falls from round to round. -/
def Far (p : Int) (n k m : Nat) (M : MxL) : Prop :=
  (∃ L, m = 2 * L + 1 ∧ Has n k M L) ∨ ∃ L, m = 2 * L ∧ (M k k).length = L ∧ M k k ≠ [] ∧ ∃ j, k < j ∧ j < n ∧ (divp p (M k j) (M k k)).2 ≠ []
theorem Sm.far {p : Int} {n : Nat} {A : Nat → Nat → PS} {k : Nat} {M : MxL} (h : Sm p n A k M) (hk : k < n) (hA : ¬ AllMinK (Dv p pzero) (· < n) n A) : Far p n k (2 * (n + 1) + 1) M := by
  obtain ⟨i, j, hi, hj, hne⟩ := h.alive hk hA
  exact .inl ⟨n + 1, rfl, i, j, hi, hj, hne, h.len hi hj⟩
theorem swpM_corner (k x y : Nat) (M : MxL) : swpM k x y M k k = M x y := by unfold swpM swp; rw [if_pos rfl, if_pos rfl]
theorem swpM_self (k : Nat) (M : MxL) : swpM k k k M = M := by funext i j; unfold swpM; rw [swp_self, swp_self]
/-- A round that leaves rests. -/
theorem Far.rests {p : Int} (hp : Pr p) {n : Nat} {A : Nat → Nat → PS} {k m : Nat} {M : MxL} (h : Sm p n A k M) (hk : k < n) (hf : Far p n k m M) {x y : Nat} (hs : Small n k M x y) (hc : ¬ Clean p n k (swpM k x y M)) :
    ∃ m', m' < m ∧ Far p n k m' (clrM p n k (swpM k x y M)) := by
  have hS := h.swap hs.hx hs.hy
  have hne : swpM k x y M k k ≠ [] := by rw [swpM_corner]; exact hs.ne
  have hl0 : 0 < (M x y).length := List.length_pos_iff.2 hs.ne
  have hkk : Part k n k := ⟨Nat.le_refl k, hk⟩
  have hhas : Has n k (clrM p n k (swpM k x y M)) ((M x y).length - 1) := by
    rcases Classical.not_and_iff_not_or_not.1 hc with h1 | h1
    · obtain ⟨i, h1⟩ := Classical.not_forall.1 h1
      obtain ⟨hi, h1⟩ := Classical.not_forall.1 h1
      obtain ⟨hi2, h1⟩ := Classical.not_forall.1 h1
      refine ⟨i, k, ⟨by omega, hi2⟩, hkk, ?_, ?_⟩
      · rw [hS.clr_col hp hk hne hi hi2]; exact h1
      · rw [hS.clr_col hp hk hne hi hi2]
        have := (divp_spec hp (hS.po i k hi2 hk) (hS.po k k hk hk) hne).2.2.1
        rw [swpM_corner] at this ⊢; omega
    · obtain ⟨j, h1⟩ := Classical.not_forall.1 h1
      obtain ⟨hj, h1⟩ := Classical.not_forall.1 h1
      obtain ⟨hj2, h1⟩ := Classical.not_forall.1 h1
      refine ⟨k, j, hkk, ⟨by omega, hj2⟩, ?_, ?_⟩
      · rw [hS.clr_row hp hk hne hj hj2]; exact h1
      · rw [hS.clr_row hp hk hne hj hj2]
        have := (divp_spec hp (hS.po k j hk hj2) (hS.po k k hk hk) hne).2.2.1
        rw [swpM_corner] at this ⊢; omega
  refine ⟨2 * ((M x y).length - 1) + 1, ?_, .inl ⟨_, rfl, hhas⟩⟩
  rcases hf with ⟨L, rfl, i, j, hi, hj, hn, hl⟩ | ⟨L, rfl, hl, hn, _⟩
  · have := hs.least i j hi hj hn; omega
  · have := hs.least k k hkk hkk hn; omega
/-- A clean round with a spoiler behind it. -/
theorem Far.spoiled {p : Int} (hp : Pr p) {n : Nat} {A : Nat → Nat → PS} {k m : Nat} {M : MxL} (h : Sm p n A k M) (hk : k < n) (hf : Far p n k m M) {x y : Nat} (hs : Small n k M x y) (hc : Clean p n k (swpM k x y M)) {bad j : Nat}
    (hb : k < bad) (hb2 : bad < n) (hj : k < j) (hj2 : j < n) (hr : (divp p (clrM p n k (swpM k x y M) bad j) (clrM p n k (swpM k x y M) k k)).2 ≠ []) :
    ∃ m', m' < m ∧ Far p n k m' (spoil p n k bad (clrM p n k (swpM k x y M))) := by
  have hS := h.swap hs.hx hs.hy
  have hne : swpM k x y M k k ≠ [] := by rw [swpM_corner]; exact hs.ne
  have hC := hS.clear hp hk hne
  have hkk : Part k n k := ⟨Nat.le_refl k, hk⟩
  have e1 : spoil p n k bad (clrM p n k (swpM k x y M)) k k = M x y := by
    unfold spoil
    rw [if_pos ⟨rfl, Nat.le_refl k, hk⟩, hS.clr_col hp hk hne hb hb2, hc.1 bad hb hb2, clr_corner, swpM_corner]
    exact addp_one_nil hp (h.po x y hs.hx.2 hs.hy.2)
  have e2 : spoil p n k bad (clrM p n k (swpM k x y M)) k j = clrM p n k (swpM k x y M) bad j := by
    unfold spoil
    rw [if_pos ⟨rfl, by omega, hj2⟩, hS.clr_row hp hk hne hj hj2, hc.2 j hj hj2]
    exact addp_nil_one hp (hC.po bad j hb2 hj2)
  refine ⟨2 * (M x y).length, ?_, .inr ⟨_, rfl, by rw [e1], by rw [e1]; exact hs.ne, j, hj, hj2, ?_⟩⟩
  · rcases hf with ⟨L, rfl, i, i', hi, hi', hn, hl⟩ | ⟨L, rfl, hl, hn, j', hj', hj2', hr'⟩
    · have := hs.least i i' hi hi' hn; omega
    · rcases hs.first with ⟨rfl, rfl⟩ | h1 | h1
      · refine absurd ?_ hr'
        rw [swpM_self] at hc
        exact hc.2 j' hj' hj2'
      · exact absurd h1 hn
      · omega
  · rw [e1, e2]
    rw [clr_corner, swpM_corner] at hr
    exact hr
/-- A clean round without a spoiler. -/
theorem Sm.stage {p : Int} (hp : Pr p) {n : Nat} {A : Nat → Nat → PS} {k : Nat} {M : MxL} (h : Sm p n A k M) (hk : k < n) {x y : Nat} (hs : Small n k M x y) (hc : Clean p n k (swpM k x y M))
    (h3 : ∀ i j, k < i → i < n → k < j → j < n → (divp p (clrM p n k (swpM k x y M) i j) (clrM p n k (swpM k x y M) k k)).2 = []) : Sm p n A (k + 1) (clrM p n k (swpM k x y M)) := by
  have hS := h.swap hs.hx hs.hy
  have hne : swpM k x y M k k ≠ [] := by rw [swpM_corner]; exact hs.ne
  refine (hS.clear hp hk hne).next hp hk (by rw [clr_corner]; exact hne) (fun i hi hi2 => ?_) (fun j hj hj2 => ?_) h3
  · rw [hS.clr_col hp hk hne hi hi2]; exact hc.1 i hi hi2
  · rw [hS.clr_row hp hk hne hj hj2]; exact hc.2 j hj hj2
end Go.Proofs.Ytnkkkgaojhkniab

/- The diagonal form and the greatest common divisors of determinants. No program in sight. -/
namespace Go.Proofs.Ytnkkkgaojhkniab

/-- g is the monic greatest common divisor of all determinants of k rows and k columns. -/
structure IsG (p : Int) (n k : Nat) (A : Nat → Nat → PS) (g : List Int) : Prop where
  po : Po p g
  ne : g ≠ []
  one : cf g (g.length - 1) = 1
  dv : AllMinK (Dv p (cf g)) (· < n) k A
  gr : ∀ e : PS, AllMinK (Dv p e) (· < n) k A → Dv p e (cf g)
/-- A multiple, as a product of polynomials. -/
theorem Dv.list {p : Int} (hp : Pr p) {d a : List Int} (ha : Po p a) (h : Dv p (cf d) (cf a)) : ∃ q, Po p q ∧ a = mulp p q d := by
  have hp2 := hp.pos
  obtain ⟨q, N, hq, e⟩ := h
  refine ⟨low p N q, low_Po (by omega) N q, ha.eq_of_eqp (mulp_Po (by omega) _ _) (e.trans ?_)⟩
  exact (Eqp.mul (low_eqp hq).symm (Eqp.refl _)).trans (mulp_eqp p _ _).symm
theorem mulp_len_pos {p : Int} (hp : Pr p) {q d : List Int} (hq : Po p q) (hd : Po p d) (hne : mulp p q d ≠ []) : q ≠ [] ∧ d ≠ [] ∧ (mulp p q d).length + 1 = q.length + d.length := by
  rcases mulp_len hp hq hd with h | h
  · exact absurd h hne
  · exact h
theorem monic_same {p : Int} (hp : Pr p) {a b : List Int} (ha : Po p a) (hb : Po p b) (na : a ≠ []) (nb : b ≠ []) (oa : cf a (a.length - 1) = 1) (ob : cf b (b.length - 1) = 1) (h1 : Dv p (cf a) (cf b)) (h2 : Dv p (cf b) (cf a)) : a = b := by
  have hp2 := hp.pos
  obtain ⟨q, hq, e⟩ := h1.list hp hb
  obtain ⟨r, hr, e'⟩ := h2.list hp ha
  obtain ⟨q0, _, lq⟩ := mulp_len_pos hp hq ha (e ▸ nb)
  obtain ⟨r0, _, lr⟩ := mulp_len_pos hp hr hb (e' ▸ na)
  rw [← e] at lq
  rw [← e'] at lr
  have hq0 := List.length_pos_iff.2 q0
  have hr0 := List.length_pos_iff.2 r0
  have hl : b.length = a.length := by omega
  have hq1 : q.length = 1 := by omega
  have hcf : ∀ i, cf b i = cf q 0 * cf a i % p := fun i => by
    have h : cf b i = cf (mulp p q a) i := congrArg (fun x => cf x i) e
    rw [h]
    refine mulp_one_cf p (cf q 0) (fun j => ?_) a i
    split
    · rename_i h; rw [h]
    · exact cf_ge _ _ (by omega)
  have h1 := hcf (a.length - 1)
  rw [← hl, ob, hl, oa, Int.mul_one, Int.emod_eq_of_lt (hq.md 0).1 (hq.md 0).2] at h1
  refine ha.ext hb fun i => ?_
  rw [hcf i, ← h1, Int.one_mul, Int.emod_eq_of_lt (ha.md i).1 (ha.md i).2]
theorem IsG.same {p : Int} (hp : Pr p) {n k : Nat} {A : Nat → Nat → PS} {g g' : List Int} (h : IsG p n k A g) (h' : IsG p n k A g') : g = g' :=
  monic_same hp h.po h'.po h.ne h'.ne h.one h'.one (h'.gr _ h.dv) (h.gr _ h'.dv)

/-! ## determinants of lists in order tell all -/
/-- The members of a list below n, in order. -/
def inOrder (n : Nat) (R : List Nat) : List Nat := (List.range n).filter (fun x => decide (x ∈ R))
theorem inOrder_perm {n : Nat} {R : List Nat} (hd : R.Nodup) (h : ∀ i ∈ R, i < n) : R.Perm (inOrder n R) := by
  refine (List.perm_ext_iff_of_nodup hd (List.nodup_range.filter _)).2 fun a => ?_
  simp only [List.mem_filter, List.mem_range, decide_eq_true_eq]
  exact ⟨fun ha => ⟨h a ha, ha⟩, fun ha => ha.2⟩
/-- A part of the first n numbers, in order. -/
def Ord (n : Nat) (R : List Nat) : Prop := ∃ f : Nat → Bool, R = (List.range n).filter f
theorem Ord.lt {n : Nat} {R : List Nat} (h : Ord n R) {i : Nat} (hi : i ∈ R) : i < n := by
  obtain ⟨f, rfl⟩ := h
  exact List.mem_range.1 (List.mem_filter.1 hi).1
theorem Ord.nodup {n : Nat} {R : List Nat} (h : Ord n R) : R.Nodup := by
  obtain ⟨f, rfl⟩ := h
  exact List.nodup_range.filter _
theorem dv_of_ord {p : Int} {n k : Nat} {d : PS} {A : Nat → Nat → PS} (h : ∀ R C, Ord n R → Ord n C → R.length = k → C.length = k → Dv p d (det A R C)) : AllMinK (Dv p d) (· < n) k A := by
  have h1 : ∀ R C, (∀ i ∈ R, i < n) → Ord n C → R.length = k → C.length = k → Dv p d (det A R C) := fun R C hR hC h1 h2 => by
    by_cases hd : R.Nodup
    · have hp := inOrder_perm hd hR
      obtain ⟨s, _, e⟩ := det_perm A hp
      rw [e C]
      exact (h _ C ⟨_, rfl⟩ hC (hp.length_eq ▸ h1) h2).smul s
    · rw [det_dup A hd]; exact Dv.zero _
  intro R C hR hC h1' h2
  rw [det_flip A k R C h1' h2]
  by_cases hd : C.Nodup
  · have hp := inOrder_perm hd hC
    obtain ⟨s, _, e⟩ := det_perm (fun i j => A j i) hp
    rw [e R, ← det_flip A k R (inOrder n C) h1' (hp.length_eq ▸ h2)]
    exact (h1 R _ hR ⟨_, rfl⟩ h1' (hp.length_eq ▸ h2)).smul s
  · rw [det_dup _ hd]; exact Dv.zero _

/-! ## the diagonal -/
def prodL (D : Nat → PS) : List Nat → PS
  | [] => pone
  | r :: R => pmul (D r) (prodL D R)
def prodS (D : Nat → PS) (s : Nat) : Nat → PS
  | 0 => pone
  | k + 1 => pmul (D s) (prodS D (s + 1) k)
theorem Dv.pmul {p : Int} {a b c d : PS} (h : Dv p a b) (k : Dv p c d) : Dv p (pmul a c) (pmul b d) := by
  obtain ⟨q, N, hq, e⟩ := h
  obtain ⟨r, M, hr, e'⟩ := k
  refine ⟨Go.Proofs.Ytnkkkgaojhkniab.pmul q r, _, hq.pmul hr, (Eqp.mul e e').trans (Eqp.of_eq ?_)⟩
  rw [pmul_assoc, pmul_assoc, pmul_left_comm a r c]
theorem det_prodL {p : Int} {a : Nat → Nat → PS} {D : Nat → PS} {n : Nat} (h : ∀ i j, i < n → j < n → Dv p (D i) (a i j)) : ∀ (R C : List Nat), (∀ i ∈ R, i < n) → (∀ c ∈ C, c < n) → Dv p (prodL D R) (det a R C)
  | [], _, _, _ => Dv.refl _
  | r :: R, C, hR, hC => by
    rw [det_cons]
    refine alt_close (Q := Dv p (prodL D (r :: R))) (fun _ _ h1 h2 => h1.add (h2.smul (-1))) (Dv.zero _) C _ fun c X _ hc hX => ?_
    exact (h r c (hR r (by simp)) (hC c hc)).pmul (det_prodL h R X (fun i hi => hR i (by simp [hi])) fun x hx => hC x (hX x hx))
theorem prodS_dv {p : Int} {D : Nat → PS} {n : Nat} (h : ∀ i j, i ≤ j → j < n → Dv p (D i) (D j)) : ∀ (R : List Nat) (s : Nat), R.Pairwise (· < ·) → (∀ r ∈ R, s ≤ r ∧ r < n) → Dv p (prodS D s R.length) (prodL D R)
  | [], _, _, _ => Dv.refl _
  | r :: R, s, hs, hR => by
    have hp := List.pairwise_cons.1 hs
    have hr := hR r (by simp)
    refine (h s r hr.1 hr.2).pmul (prodS_dv h R (s + 1) hp.2 fun x hx => ?_)
    have := hp.1 x hx
    have := hR x (by simp [hx])
    omega
theorem Ord.pairwise {n : Nat} {R : List Nat} (h : Ord n R) : R.Pairwise (· < ·) := by
  obtain ⟨f, rfl⟩ := h
  exact List.pairwise_lt_range.filter _
theorem det_corner {p : Int} {a : Nat → Nat → PS} {n : Nat} (h0 : ∀ i j, i < n → j < n → i ≠ j → Eqp p (a i j) pzero) : ∀ (k s : Nat), s + k ≤ n → Eqp p (det a (List.range' s k) (List.range' s k)) (prodS (fun i => a i i) s k)
  | 0, _, _ => Eqp.refl _
  | k + 1, s, hs => by
    rw [List.range'_succ, det_cons]
    show Eqp p (padd (pmul (a s s) (det a (List.range' (s + 1) k) (List.range' (s + 1) k))) (psmul (-1) (alt (fun x X => pmul (a s x) (det a (List.range' (s + 1) k) (s :: X))) (List.range' (s + 1) k)))) (pmul (a s s) (prodS (fun i => a i i) (s + 1) k))
    have hz : Eqp p (alt (fun x X => pmul (a s x) (det a (List.range' (s + 1) k) (s :: X))) (List.range' (s + 1) k)) pzero := by
      refine (alt_eqp _ _ (fun _ _ => pzero) fun c X _ hc _ => ?_).trans (Eqp.of_eq (alt_zero _))
      have := List.mem_range'_1.1 hc
      exact (Eqp.mul (h0 s c (by omega) (by omega) (by omega)) (Eqp.refl _)).trans (Eqp.of_eq (pzero_mul _))
    refine (Eqp.add (Eqp.mul (Eqp.refl _) (det_corner h0 k (s + 1) (by omega))) (Eqp.smul hz)).trans (Eqp.of_eq ?_)
    rw [psmul_pzero, padd_pzero]
/-- The monic polynomial. -/
def monic (p : Int) (a : List Int) : List Int := scl p a (invp p (cf a (a.length - 1)))
/-- The product of the first k of the diagonal, monic. -/
def gk (p : Int) (D : Nat → List Int) : Nat → List Int
  | 0 => [1]
  | k + 1 => mulp p (gk p D k) (monic p (D k))
theorem monic_Po {p : Int} (hp : Pr p) (a : List Int) : Po p (monic p a) := scl_Po (by have := hp.pos; omega) _ _
theorem monic_ne {p : Int} (hp : Pr p) {a : List Int} (ha : Po p a) (hne : a ≠ []) : monic p a ≠ [] ∧ (monic p a).length = a.length ∧ cf (monic p a) ((monic p a).length - 1) = 1 := by
  obtain ⟨h1, h2⟩ := scl_monic hp ha hne
  have := List.length_pos_iff.2 hne
  exact ⟨fun e => by unfold monic at e; rw [e] at h1; simp at h1; omega, h1, by unfold monic; rw [h1]; exact h2⟩
theorem monic_dv {p : Int} (hp : Pr p) {a : List Int} (ha : Po p a) (hne : a ≠ []) : Dv p (cf (monic p a)) (cf a) ∧ Dv p (cf a) (cf (monic p a)) := by
  have hp2 := hp.pos
  have hi := invp_spec hp (ha.lead hne) (ha.md _).2
  have e := scl_eqp p a (invp p (cf a (a.length - 1)))
  refine ⟨⟨psmul (cf a (a.length - 1)) pone, 1, pone_Fin0.psmul _, ?_⟩, ⟨psmul (invp p (cf a (a.length - 1))) pone, 1, pone_Fin0.psmul _, ?_⟩⟩
  · rw [psmul_pmul, pone_mul]
    have := Eqp.smul (c := cf a (a.length - 1)) e
    refine Eqp.trans ?_ this.symm
    rw [psmul_psmul]
    intro n
    show cf a n % p = (cf a (a.length - 1) * invp p (cf a (a.length - 1)) * cf a n) % p
    rw [Int.mul_comm (cf a (a.length - 1))]
    have := hi.2.2
    rw [Int.mul_emod, this, Int.one_mul, Int.emod_emod_of_dvd _ (Int.dvd_refl p)]
  · rw [psmul_pmul, pone_mul]; exact e
theorem mulp_monic {p : Int} (hp : Pr p) {a b : List Int} (ha : Po p a) (hb : Po p b) (na : a ≠ []) (nb : b ≠ []) (oa : cf a (a.length - 1) = 1) (ob : cf b (b.length - 1) = 1) :
    mulp p a b ≠ [] ∧ cf (mulp p a b) ((mulp p a b).length - 1) = 1 := by
  have hp2 := hp.pos
  have hl := mulp_length hp ha hb na nb
  have h1 := List.length_pos_iff.2 na
  have h2 := List.length_pos_iff.2 nb
  refine ⟨fun e => by rw [e] at hl; simp at hl; omega, ?_⟩
  rw [mulp_cf, show (mulp p a b).length - 1 = (a.length - 1) + (b.length - 1) by omega]
  have : pmul (cf a) (cf b) ((a.length - 1) + (b.length - 1)) % p = cf a (a.length - 1) * cf b ((a.length - 1) + (b.length - 1) - (a.length - 1)) % p := sumN_one_mod (by omega) fun j hj hne => by
    by_cases e2 : a.length ≤ j
    · rw [cf_ge a j e2, Int.zero_mul]; exact Int.zero_emod p
    · rw [cf_ge b _ (by omega), Int.mul_zero]; exact Int.zero_emod p
  rw [this, show (a.length - 1) + (b.length - 1) - (a.length - 1) = b.length - 1 by omega, oa, ob, Int.mul_one]
  exact Int.emod_eq_of_lt (by omega) (by omega)
theorem one_monic : cf [1] (([1] : List Int).length - 1) = 1 := by simp [cf]
theorem gk_monic {p : Int} (hp : Pr p) {D : Nat → List Int} : ∀ k, (∀ i, i < k → Po p (D i) ∧ D i ≠ []) → Po p (gk p D k) ∧ gk p D k ≠ [] ∧ cf (gk p D k) ((gk p D k).length - 1) = 1
  | 0, _ => by have hp2 := hp.pos; exact ⟨one_Po hp2.1, by unfold gk; simp, one_monic⟩
  | k + 1, h => by
    have hp2 := hp.pos
    obtain ⟨h1, h2, h3⟩ := gk_monic hp k fun i hi => h i (by omega)
    obtain ⟨m1, m2, m3⟩ := monic_ne hp (h k (by omega)).1 (h k (by omega)).2
    have := mulp_monic hp h1 (monic_Po hp (D k)) h2 m1 h3 m3
    exact ⟨mulp_Po (by omega) _ _, this.1, this.2⟩
theorem prodS_last (D : Nat → PS) : ∀ (k s : Nat), prodS D s (k + 1) = pmul (prodS D s k) (D (s + k))
  | 0, s => by show pmul (D s) pone = pmul pone (D s); rw [pmul_one, pone_mul]
  | k + 1, s => by
    show pmul (D s) (prodS D (s + 1) (k + 1)) = pmul (pmul (D s) (prodS D (s + 1) k)) (D (s + (k + 1)))
    rw [prodS_last D k (s + 1), pmul_assoc, show s + 1 + k = s + (k + 1) by omega]
theorem gk_dv {p : Int} (hp : Pr p) {D : Nat → List Int} : ∀ k, (∀ i, i < k → Po p (D i) ∧ D i ≠ []) → Dv p (cf (gk p D k)) (prodS (fun i => cf (D i)) 0 k) ∧ Dv p (prodS (fun i => cf (D i)) 0 k) (cf (gk p D k))
  | 0, _ => by
    show Dv p (cf [1]) pone ∧ Dv p pone (cf [1])
    rw [cf_one]; exact ⟨Dv.refl _, Dv.refl _⟩
  | k + 1, h => by
    obtain ⟨h1, h2⟩ := gk_dv hp k fun i hi => h i (by omega)
    obtain ⟨m1, m2⟩ := monic_dv hp (h k (by omega)).1 (h k (by omega)).2
    rw [prodS_last, Nat.zero_add]
    show Dv p (cf (mulp p (gk p D k) (monic p (D k)))) _ ∧ Dv p _ (cf (mulp p (gk p D k) (monic p (D k))))
    have e := mulp_eqp p (gk p D k) (monic p (D k))
    refine ⟨?_, (h2.pmul m2).congr e⟩
    obtain ⟨q, N, hq, e2⟩ := h1.pmul m1
    exact ⟨q, N, hq, e2.trans (Eqp.mul (Eqp.refl _) e.symm)⟩
/-- What the diagonal tells of the matrix. -/
theorem Sm.isG {p : Int} (hp : Pr p) {n : Nat} {A : Nat → Nat → PS} {M : MxL} (h : Sm p n A n M) {k : Nat} (hk : k ≤ n) : IsG p n k A (gk p (fun i => M i i) k) := by
  have hD : ∀ i, i < k → Po p (M i i) ∧ M i i ≠ [] := fun i hi => ⟨h.po i i (by omega) (by omega), h.piv i (by omega)⟩
  obtain ⟨g1, g2, g3⟩ := gk_monic hp (D := fun i => M i i) k hD
  obtain ⟨d1, d2⟩ := gk_dv hp (D := fun i => M i i) k hD
  have h0 : ∀ i j, i < n → j < n → i ≠ j → Eqp p (cfm M i j) pzero := fun i j hi hj hne => by
    show Eqp p (cf (M i j)) pzero
    rw [(h.low i hi j hj (by omega)).1, cf_nil_zero]; exact Eqp.refl _
  refine ⟨g1, g2, g3, ?_, fun e he => ?_⟩
  · refine h.eqv.dv.2 (dv_of_ord fun R C hR hC h1 h2 => ?_)
    have hd : ∀ i j, i < n → j < n → Dv p (cf (M i i)) (cfm M i j) := fun i j hi hj => by
      by_cases e : i = j
      · subst e; exact Dv.refl _
      · exact (Dv.zero _).congr (h0 i j hi hj e)
    have hs := prodS_dv (p := p) (D := fun i => cf (M i i)) (n := n) (fun i j hij hj => h.div i (by omega) j j ⟨hij, hj⟩ ⟨hij, hj⟩) R 0 hR.pairwise fun r hr => ⟨Nat.zero_le _, hR.lt hr⟩
    rw [h1] at hs
    exact (d1.trans hs).trans (det_prodL (D := fun i => cf (M i i)) hd R C (fun i hi => hR.lt hi) fun c hc => hC.lt hc)
  · have h1 := h.eqv.dv.1 he (List.range' 0 k) (List.range' 0 k) (fun i hi => by have := (List.mem_range'_1.1 hi); omega) (fun i hi => by have := (List.mem_range'_1.1 hi); omega) List.length_range' List.length_range'
    exact (h1.congr (det_corner h0 k 0 (by omega)).symm).trans d2
/-- The quotients of those divisors. -/
theorem gk_quot {p : Int} (hp : Pr p) {D : Nat → List Int} {k : Nat} (h : ∀ i, i < k + 1 → Po p (D i) ∧ D i ≠ []) : (divp p (gk p D (k + 1)) (gk p D k)).1 = monic p (D k) := by
  have hp2 := hp.pos
  obtain ⟨h1, h2, h3⟩ := gk_monic hp k fun i hi => h i (by omega)
  have hl := List.length_pos_iff.2 h2
  show (divp p (mulp p (gk p D k) (monic p (D k))) (gk p D k)).1 = _
  rw [divp_eq hp (q := monic p (D k)) (r := []) (mulp_Po (by omega) _ _) h1 h2 (monic_Po hp _) (Po_nil (by omega)) hl ?_]
  rw [cf_nil_zero, padd_pzero]
  exact (mulp_eqp p _ _).trans (Eqp.of_eq (pmul_comm _ _))
end Go.Proofs.Ytnkkkgaojhkniab

/- A matrix leads vectors; a polynomial leads vectors, in two ways of reckoning. No program in sight. -/
namespace Go.Proofs.Ytnkkkgaojhkniab

/-- Behind k entries. -/
def ledN (p : Int) (M : Nat → List Int) (v : List Int) : Nat → List Int
  | 0 => []
  | k + 1 => addp p (ledN p M v k) (M k) (cf v k)
def led (p : Int) (M : Nat → List Int) (v : List Int) : List Int := ledN p M v v.length
theorem ledN_Po {p : Int} (hp : 2 ≤ p) (M : Nat → List Int) (v : List Int) : ∀ k, Po p (ledN p M v k)
  | 0 => Po_nil (by omega)
  | k + 1 => addp_Po (by omega) _ _ _
theorem ledN_len {p : Int} {M : Nat → List Int} {n : Nat} (hM : ∀ i, (M i).length ≤ n) (v : List Int) : ∀ k, (ledN p M v k).length ≤ n
  | 0 => by simp [ledN]
  | k + 1 => by
    have h1 := addp_length p (ledN p M v k) (M k) (cf v k)
    have h2 := ledN_len (p := p) hM v k
    have h3 := hM k
    show (addp p _ _ _).length ≤ n
    omega
/-- The sum that a matrix makes. -/
def ledS (M : Nat → List Int) (v : PS) (k : Nat) : PS := fun j => sumN k (fun i => v i * cf (M i) j)
theorem ledN_eqp (p : Int) (M : Nat → List Int) (v : List Int) : ∀ k, Eqp p (cf (ledN p M v k)) (ledS M (cf v) k)
  | 0 => by unfold ledN; rw [cf_nil_zero]; exact Eqp.of_eq (by funext j; rfl)
  | k + 1 => by
    refine (addp_eqp p _ _ _).trans ?_
    exact (Eqp.add (ledN_eqp p M v k) (Eqp.refl _)).trans (Eqp.of_eq (by funext j; rfl))
theorem ledS_ge {M : Nat → List Int} {v : PS} {k n : Nat} (hv : Fin0 v k) (h : k ≤ n) : ledS M v n = ledS M v k := by
  funext j; exact sumN_ge h fun i hi => by rw [hv i hi, Int.zero_mul]
theorem ledS_add (M : Nat → List Int) (v u : PS) (t : Int) (k : Nat) : ledS M (padd v (psmul t u)) k = padd (ledS M v k) (psmul t (ledS M u k)) := by
  funext j
  show sumN k (fun i => (v i + t * u i) * cf (M i) j) = sumN k _ + t * sumN k _
  rw [← sumN_mul, ← sumN_add]
  exact sumN_congr fun i _ => by rw [Int.add_mul, Int.mul_assoc]
theorem ledS_eqp {p : Int} {M : Nat → List Int} {v u : PS} (h : Eqp p v u) (k : Nat) : Eqp p (ledS M v k) (ledS M u k) := fun j => sumN_emod fun i _ => emod_mul_congr (h i) rfl
theorem led_eqp (p : Int) (M : Nat → List Int) {v : List Int} {n : Nat} (h : v.length ≤ n) : Eqp p (cf (led p M v)) (ledS M (cf v) n) := by
  rw [ledS_ge (cf_Fin0 v) h]; exact ledN_eqp p M v _
theorem led_Po {p : Int} (hp : 2 ≤ p) (M : Nat → List Int) (v : List Int) : Po p (led p M v) := ledN_Po hp M v _
theorem led_len {p : Int} {M : Nat → List Int} {n : Nat} (hM : ∀ i, (M i).length ≤ n) (v : List Int) : (led p M v).length ≤ n := ledN_len hM v _
/-- A sum is led to the sum. -/
theorem led_addp {p : Int} (hp : 2 ≤ p) (M : Nat → List Int) (v u : List Int) (t : Int) : led p M (addp p v u t) = addp p (led p M v) (led p M u) t := by
  refine (led_Po hp M _).eq_of_eqp (addp_Po (by omega) _ _ _) ?_
  have hl := addp_length p v u t
  have h1 := led_eqp p M (v := v) (n := max v.length u.length) (by omega)
  have h2 := led_eqp p M (v := u) (n := max v.length u.length) (by omega)
  refine (led_eqp p M hl).trans ((ledS_eqp (addp_eqp p v u t) _).trans ?_)
  rw [ledS_add]
  refine Eqp.trans ?_ (addp_eqp p _ _ t).symm
  exact Eqp.add h1.symm (Eqp.smul h2.symm)
theorem led_nil (p : Int) (M : Nat → List Int) : led p M [] = [] := rfl

/-- From the top: as the reference reckons. -/
def horL (p : Int) (M : Nat → List Int) (v : List Int) : List Int → List Int
  | [] => []
  | c :: cs => addp p (led p M (horL p M v cs)) v c
/-- From below: as the program reckons. -/
def lpw (p : Int) (M : Nat → List Int) (v : List Int) : Nat → List Int
  | 0 => v
  | k + 1 => led p M (lpw p M v k)
def aplN (p : Int) (M : Nat → List Int) (a v : List Int) : Nat → List Int
  | 0 => []
  | k + 1 => addp p (aplN p M a v k) (lpw p M v k) (cf a k)
theorem lpw_shift (p : Int) (M : Nat → List Int) (v : List Int) : ∀ k, lpw p M (led p M v) k = lpw p M v (k + 1)
  | 0 => rfl
  | k + 1 => by show led p M (lpw p M (led p M v) k) = led p M (lpw p M v (k + 1)); rw [lpw_shift p M v k]
theorem lpw_Po {p : Int} (hp : 2 ≤ p) {M : Nat → List Int} {v : List Int} (hv : Po p v) : ∀ k, Po p (lpw p M v k)
  | 0 => hv
  | k + 1 => led_Po hp M _
theorem lpw_len {p : Int} {M : Nat → List Int} {n : Nat} (hM : ∀ i, (M i).length ≤ n) {v : List Int} (hv : v.length ≤ n) : ∀ k, (lpw p M v k).length ≤ n
  | 0 => hv
  | k + 1 => led_len hM _
theorem aplN_Po {p : Int} (hp : 2 ≤ p) (M : Nat → List Int) (a v : List Int) : ∀ k, Po p (aplN p M a v k)
  | 0 => Po_nil (by omega)
  | k + 1 => addp_Po (by omega) _ _ _
theorem aplN_len {p : Int} {M : Nat → List Int} {n : Nat} (hM : ∀ i, (M i).length ≤ n) (a : List Int) {v : List Int} (hv : v.length ≤ n) : ∀ k, (aplN p M a v k).length ≤ n
  | 0 => by simp [aplN]
  | k + 1 => by
    have h1 := addp_length p (aplN p M a v k) (lpw p M v k) (cf a k)
    have h2 := aplN_len (p := p) hM a hv k
    have h3 := lpw_len (p := p) hM hv k
    show (addp p _ _ _).length ≤ n
    omega
/-- What is summed up, as sequences. -/
def aplS (p : Int) (M : Nat → List Int) (v : List Int) : List Int → PS
  | [] => pzero
  | c :: cs => padd (psmul c (cf v)) (aplS p M (led p M v) cs)
theorem aplN_eqp (p : Int) (M : Nat → List Int) : ∀ (a v : List Int), Eqp p (cf (aplN p M a v a.length)) (aplS p M v a) := by
  have key : ∀ (a v : List Int) (k : Nat), Eqp p (cf (aplN p M a v k)) (fun j => sumN k (fun i => cf a i * cf (lpw p M v i) j)) := by
    intro a v k
    induction k with
    | zero => unfold aplN; rw [cf_nil_zero]; exact Eqp.of_eq (by funext j; rfl)
    | succ k ih => exact (addp_eqp p _ _ _).trans ((Eqp.add ih (Eqp.refl _)).trans (Eqp.of_eq (by funext j; rfl)))
  have key2 : ∀ (a v : List Int), aplS p M v a = fun j => sumN a.length (fun i => cf a i * cf (lpw p M v i) j) := by
    intro a
    induction a with
    | nil => intro v; rfl
    | cons c cs ih =>
      intro v
      funext j
      show c * cf v j + aplS p M (led p M v) cs j = sumN (cs.length + 1) _
      rw [ih, sumN_first, cf_cons_zero]
      congr 1
      exact sumN_congr fun i _ => by rw [cf_cons_succ, lpw_shift]
  intro a v
  rw [key2]; exact key a v a.length
theorem horL_Po {p : Int} (hp : 2 ≤ p) (M : Nat → List Int) (v : List Int) : ∀ a, Po p (horL p M v a)
  | [] => Po_nil (by omega)
  | _ :: _ => addp_Po (by omega) _ _ _
theorem horL_led {p : Int} (hp : 2 ≤ p) (M : Nat → List Int) (v : List Int) : ∀ a, horL p M (led p M v) a = led p M (horL p M v a)
  | [] => rfl
  | c :: cs => by
    show addp p (led p M (horL p M (led p M v) cs)) (led p M v) c = led p M (addp p (led p M (horL p M v cs)) v c)
    rw [horL_led hp M v cs, led_addp hp]
theorem horL_eqp {p : Int} (hp : 2 ≤ p) (M : Nat → List Int) : ∀ (a v : List Int), Eqp p (cf (horL p M v a)) (aplS p M v a)
  | [], v => by unfold horL; rw [cf_nil_zero]; exact Eqp.refl _
  | c :: cs, v => by
    show Eqp p (cf (addp p (led p M (horL p M v cs)) v c)) (padd (psmul c (cf v)) (aplS p M (led p M v) cs))
    refine (addp_eqp p _ _ _).trans ?_
    rw [← horL_led hp, padd_comm]
    exact Eqp.add (Eqp.refl _) (horL_eqp hp M cs (led p M v))
theorem apl_eq {p : Int} (hp : 2 ≤ p) (M : Nat → List Int) (a v : List Int) : aplN p M a v a.length = horL p M v a :=
  (aplN_Po hp M a v _).eq_of_eqp (horL_Po hp M v a) ((aplN_eqp p M a v).trans (horL_eqp hp M a v).symm)
theorem horL_len {p : Int} {M : Nat → List Int} {n : Nat} (hM : ∀ i, (M i).length ≤ n) {v : List Int} (hv : v.length ≤ n) : ∀ a, (horL p M v a).length ≤ n
  | [] => by simp [horL]
  | c :: cs => by
    have h1 := addp_length p (led p M (horL p M v cs)) v c
    have h2 := led_len (p := p) hM (horL p M v cs)
    show (addp p _ _ _).length ≤ n
    omega
end Go.Proofs.Ytnkkkgaojhkniab

/- One generator: what is told by elementary steps. No program in sight. -/
namespace Go.Proofs.Ytnkkkgaojhkniab

/-- Finite. -/
def FnS (f : PS) : Prop := ∃ N, Fin0 f N
def xx : PS := mono 1 1
/-- What is put together of the rows of B and of u. -/
inductive Cy (p : Int) (n : Nat) (B : Nat → Nat → PS) (u : Nat → PS) : (Nat → PS) → Prop where
  | gen : Cy p n B u u
  | row (i : Nat) (hi : i < n) : Cy p n B u (B i)
  | zero : Cy p n B u (fun _ => pzero)
  | add {f g : Nat → PS} (hf : Cy p n B u f) (hg : Cy p n B u g) : Cy p n B u (fun j => padd (f j) (g j))
  | smul {f : Nat → PS} (c : Int) (hf : Cy p n B u f) : Cy p n B u (fun j => psmul c (f j))
  | shift {f : Nat → PS} (hf : Cy p n B u f) : Cy p n B u (fun j => pmul xx (f j))
  | congr {f g : Nat → PS} (hf : Cy p n B u f) (h : ∀ j, j < n → Eqp p (g j) (f j)) : Cy p n B u g
def CycP (p : Int) (n : Nat) (B : Nat → Nat → PS) (u : Nat → PS) : Prop := ∀ f : Nat → PS, (∀ j, j < n → FnS (f j)) → Cy p n B u f
theorem split_low (q : PS) : q = padd (psmul (q 0) pone) (pmul xx fun i => q (i + 1)) := by
  funext m
  show q m = q 0 * pone m + pmul (mono 1 1) (fun i => q (i + 1)) m
  rw [mono_mul]
  rcases m with _ | m
  · rw [if_neg (by omega)]; unfold pone; rw [if_pos rfl]; omega
  · rw [if_pos (by omega), Nat.add_sub_cancel]; unfold pone; rw [if_neg (by omega)]; omega
theorem Cy.mul {p : Int} {n : Nat} {B : Nat → Nat → PS} {u f : Nat → PS} (hf : Cy p n B u f) : ∀ (N : Nat) (q : PS), Fin0 q N → Cy p n B u (fun j => pmul q (f j))
  | 0, q, hq => Cy.zero.congr fun j _ => Eqp.of_eq (by rw [show q = pzero from funext fun i => hq i (by omega), pzero_mul])
  | N + 1, q, hq => by
    have h1 := Cy.mul hf N (fun i => q (i + 1)) fun i hi => hq (i + 1) (by omega)
    refine ((hf.smul (q 0)).add h1.shift).congr fun j _ => Eqp.of_eq ?_
    have e := split_low q
    have e2 : pmul q (f j) = pmul (padd (psmul (q 0) pone) (pmul xx fun i => q (i + 1))) (f j) := congrArg (fun x => pmul x (f j)) e
    rw [e2, padd_mul, psmul_pmul, pone_mul, pmul_assoc]
/-- Rows of one matrix out of those of another. -/
theorem Cy.rows {p : Int} {n : Nat} {B C : Nat → Nat → PS} {u f : Nat → PS} (hf : Cy p n B u f) (h : ∀ i, i < n → Cy p n C u (B i)) : Cy p n C u f := by
  induction hf with
  | gen => exact .gen
  | row i hi => exact h i hi
  | zero => exact .zero
  | add _ _ h1 h2 => exact h1.add h2
  | smul c _ h1 => exact h1.smul c
  | shift _ h1 => exact h1.shift
  | congr _ e h1 => exact h1.congr e
/-- A change of the columns. -/
theorem Cy.cols {p : Int} {n : Nat} {B C : Nat → Nat → PS} {u f : Nat → PS} (T : (Nat → PS) → Nat → PS) (hadd : ∀ f g j, T (fun j => padd (f j) (g j)) j = padd (T f j) (T g j)) (hz : ∀ j, T (fun _ => pzero) j = pzero)
    (hs : ∀ c f j, T (fun j => psmul c (f j)) j = psmul c (T f j)) (hx : ∀ f j, T (fun j => pmul xx (f j)) j = pmul xx (T f j)) (he : ∀ f g, (∀ j, j < n → Eqp p (g j) (f j)) → ∀ j, j < n → Eqp p (T g j) (T f j))
    (hC : ∀ i, i < n → ∀ j, j < n → Eqp p (T (B i) j) (C i j)) (hf : Cy p n B u f) : Cy p n C (T u) (T f) := by
  induction hf with
  | gen => exact .gen
  | row i hi => exact (Cy.row i hi).congr (hC i hi)
  | zero => exact Cy.zero.congr fun j _ => Eqp.of_eq (hz j)
  | add _ _ h1 h2 => exact (h1.add h2).congr fun j _ => Eqp.of_eq (hadd _ _ j)
  | smul c _ h1 => exact (h1.smul c).congr fun j _ => Eqp.of_eq (hs c _ j)
  | shift _ h1 => exact h1.shift.congr fun j _ => Eqp.of_eq (hx _ j)
  | congr _ e h1 => exact h1.congr (he _ _ e)
theorem RowAdd.cyc {p : Int} {n k : Nat} {q : Nat → PS} {a b : Nat → Nat → PS} (hk : k < n) (hq : ∀ i, i < n → FnS (q i)) (h : RowAdd p (· < n) k q a b) (u : Nat → PS) (i : Nat) (hi : i < n) : Cy p n a u (b i) := by
  by_cases e : i = k
  · subst e
    exact (Cy.row i hi).congr fun j hj => by have := h i j hi hj; rwa [if_pos rfl] at this
  · obtain ⟨N, hN⟩ := hq i hi
    exact ((Cy.row i hi).add ((Cy.row k hk).mul N (q i) hN)).congr fun j hj => by have := h i j hi hj; rwa [if_neg e] at this
theorem FnS.padd {f g : PS} (hf : FnS f) (hg : FnS g) : FnS (padd f g) := by obtain ⟨N, h⟩ := hf; obtain ⟨M, k⟩ := hg; exact ⟨_, h.padd k⟩
theorem FnS.pmul {f g : PS} (hf : FnS f) (hg : FnS g) : FnS (pmul f g) := by obtain ⟨N, h⟩ := hf; obtain ⟨M, k⟩ := hg; exact ⟨_, h.pmul k⟩
theorem FnS.psmul {f : PS} (c : Int) (hf : FnS f) : FnS (psmul c f) := by obtain ⟨N, h⟩ := hf; exact ⟨_, h.psmul c⟩
def colT (k : Nat) (q : Nat → PS) (f : Nat → PS) : Nat → PS := fun j => if j = k then f k else padd (f j) (pmul (q j) (f k))
def colU (k : Nat) (q : Nat → PS) (f : Nat → PS) : Nat → PS := fun j => if j = k then f k else padd (f j) (psmul (-1) (pmul (q j) (f k)))
theorem colT_colU (k : Nat) (q : Nat → PS) (f : Nat → PS) (j : Nat) : colT k q (colU k q f) j = f j := by
  have e1 : colU k q f k = f k := if_pos rfl
  unfold colT
  rw [e1]
  by_cases e : j = k
  · rw [if_pos e, e]
  · rw [if_neg e]
    unfold colU
    rw [if_neg e]
    funext m; show f j m + -1 * pmul (q j) (f k) m + pmul (q j) (f k) m = f j m; omega
theorem El.cyc {p : Int} {n : Nat} {a b : Nat → Nat → PS} (e : El p n a b) (h : ∃ u, (∀ j, j < n → FnS (u j)) ∧ CycP p n a u) : ∃ u, (∀ j, j < n → FnS (u j)) ∧ CycP p n b u := by
  obtain ⟨u, hu, h⟩ := h
  cases e with
  | rowadd k q hk hq hr =>
    have hs := RowAdd.symm (S := (· < n)) hk hr
    exact ⟨u, hu, fun f hf => (h f hf).rows fun i hi => hs.cyc hk (fun i hi => (hq i hi).imp fun N hN => hN.psmul _) u i hi⟩
  | rowswap k l hk hl hr =>
    have hs := RowSwap.symm (S := (· < n)) hk hl hr
    exact ⟨u, hu, fun f hf => (h f hf).rows fun i hi => (Cy.row (swp k l i) (swp_S (S := (· < n)) hk hl hi)).congr fun j hj => hs i j hi hj⟩
  | coladd k q hk hq hr =>
    refine ⟨colT k q u, fun j hj => ?_, fun f hf => ?_⟩
    · unfold colT
      by_cases e : j = k
      · rw [if_pos e]; exact hu k hk
      · rw [if_neg e]; exact (hu j hj).padd (FnS.pmul (hq j hj) (hu k hk))
    have h1 := h (colU k q f) fun j hj => by
      unfold colU
      by_cases e : j = k
      · subst e; rw [if_pos rfl]; exact hf j hj
      · rw [if_neg e]; exact (hf j hj).padd ((FnS.pmul (hq j hj) (hf k hk)).psmul _)
    have h2 := h1.cols (C := b) (colT k q) (fun f g j => ?_) (fun j => ?_) (fun c f j => ?_) (fun f j => ?_) (fun f g e j hj => ?_) (fun i hi j hj => ?_)
    · exact h2.congr fun j hj => Eqp.of_eq (colT_colU k q f j).symm
    · unfold colT
      by_cases e : j = k
      · subst e; rw [if_pos rfl, if_pos rfl, if_pos rfl]
      · rw [if_neg e, if_neg e, if_neg e, pmul_add]
        funext m; show f j m + g j m + (_ + _) = f j m + _ + (g j m + _); omega
    · unfold colT
      by_cases e : j = k
      · subst e; rw [if_pos rfl]
      · rw [if_neg e, pmul_comm, pzero_mul, padd_pzero]
    · unfold colT
      by_cases e : j = k
      · subst e; rw [if_pos rfl, if_pos rfl]
      · rw [if_neg e, if_neg e, pmul_psmul, psmul_padd]
    · unfold colT
      by_cases e : j = k
      · subst e; rw [if_pos rfl, if_pos rfl]
      · rw [if_neg e, if_neg e, pmul_add, ← pmul_assoc, ← pmul_assoc, pmul_comm (q j) xx]
    · unfold colT
      by_cases e2 : j = k
      · subst e2; rw [if_pos rfl, if_pos rfl]; exact e j hj
      · rw [if_neg e2, if_neg e2]; exact Eqp.add (e j hj) (Eqp.mul (Eqp.refl _) (e k hk))
    · unfold colT
      have := (hr j i hj hi).symm
      by_cases e2 : j = k
      · subst e2; rw [if_pos rfl] at this ⊢; exact this
      · rw [if_neg e2] at this ⊢; exact this
  | colswap k l hk hl hr =>
    refine ⟨fun j => u (swp k l j), fun j hj => hu _ (swp_S (S := (· < n)) hk hl hj), fun f hf => ?_⟩
    have h1 := h (fun j => f (swp k l j)) fun j hj => hf _ (swp_S (S := (· < n)) hk hl hj)
    have h2 := h1.cols (C := b) (fun f j => f (swp k l j)) (fun f g j => rfl) (fun j => rfl) (fun c f j => rfl) (fun f j => rfl) (fun f g e j hj => e _ (swp_S (S := (· < n)) hk hl hj)) (fun i hi j hj => (hr j i hj hi).symm)
    exact h2.congr fun j hj => Eqp.of_eq (by show f j = f (swp k l (swp k l j)); rw [swp_swp])
theorem Eqv.cyc {p : Int} {n : Nat} {a b : Nat → Nat → PS} (e : Eqv p n a b) (h : ∃ u, (∀ j, j < n → FnS (u j)) ∧ CycP p n b u) : ∃ u, (∀ j, j < n → FnS (u j)) ∧ CycP p n a u := by
  induction e with
  | refl => exact h
  | step _ e ih => exact ih (e.symm.cyc h)
/-- A diagonal of units but for the last place. -/
theorem diag_cyc {p : Int} (hp : Pr p) {n : Nat} {M : MxL} (hn : 0 < n) (h0 : ∀ i j, i < n → j < n → i ≠ j → M i j = []) (hu : ∀ i, i + 1 < n → Po p (M i i) ∧ (M i i).length = 1) : ∃ u, (∀ j, j < n → FnS (u j)) ∧ CycP p n (cfm M) u := by
  have hp2 := hp.pos
  refine ⟨fun j => if j = n - 1 then pone else pzero, fun j _ => by
    show FnS (if j = n - 1 then pone else pzero)
    split
    · exact ⟨1, pone_Fin0⟩
    · exact ⟨0, pzero_Fin0⟩, fun f hf => ?_⟩
  have key : ∀ m, m < n → Cy p n (cfm M) (fun j => if j = n - 1 then pone else pzero) (fun j => if j < m then f j else pzero) := fun m => by
    induction m with
    | zero => exact fun _ => Cy.zero.congr fun j _ => Eqp.of_eq (if_neg (by omega))
    | succ m ih =>
      intro hm
      obtain ⟨hP, hl⟩ := hu m (by omega)
      obtain ⟨N, hN⟩ := hf m (by omega)
      have hne : M m m ≠ [] := fun e => by rw [e] at hl; simp at hl
      have hinv := invp_spec hp (hP.lead hne) (hP.md _).2
      rw [hl] at hinv
      obtain ⟨c, hc⟩ := List.length_eq_one_iff.1 hl
      rw [hc] at hinv
      have hcf : cf (M m m) = psmul c pone := by rw [hc, cons_cf, cf_nil_zero, pmul_comm, pzero_mul, padd_pzero]
      have hinv3 : invp p c * c % p = 1 := by
        have := hinv.2.2
        simpa [cf] using this
      refine ((ih (by omega)).add ((Cy.row m (by omega)).mul N (psmul (invp p c) (f m)) (hN.psmul _))).congr fun j hj => ?_
      show Eqp p (if j < m + 1 then f j else pzero) (padd (if j < m then f j else pzero) (pmul (psmul (invp p c) (f m)) (cf (M m j))))
      by_cases e : j = m
      · subst e
        rw [if_pos (by omega), if_neg (by omega), pzero_padd, hcf, pmul_psmul, psmul_pmul, pmul_one, psmul_psmul]
        intro i
        show f j i % p = (c * invp p c * f j i) % p
        rw [Int.mul_comm c, Int.mul_emod, hinv3, Int.one_mul, Int.emod_emod_of_dvd _ (Int.dvd_refl p)]
      · rw [h0 m j (by omega) hj (fun h => e h.symm), cf_nil_zero, pmul_comm, pzero_mul, padd_pzero]
        by_cases e2 : j < m
        · rw [if_pos (by omega), if_pos e2]; exact Eqp.refl _
        · rw [if_neg (by omega), if_neg e2]; exact Eqp.refl _
  obtain ⟨N, hN⟩ := hf (n - 1) (by omega)
  refine ((key (n - 1) (by omega)).add (Cy.gen.mul N (f (n - 1)) hN)).congr fun j hj => Eqp.of_eq ?_
  show f j = padd (if j < n - 1 then f j else pzero) (pmul (f (n - 1)) (if j = n - 1 then pone else pzero))
  by_cases e : j = n - 1
  · rw [if_neg (by omega), if_pos e, pmul_one, pzero_padd, e]
  · rw [if_pos (by omega), if_neg e, pmul_comm, pzero_mul, padd_pzero]
end Go.Proofs.Ytnkkkgaojhkniab

/- One generator: of the polynomials' vectors, then of the vectors. No program in sight. -/
namespace Go.Proofs.Ytnkkkgaojhkniab

theorem lin_pzero (X : Nat → PS) (n : Nat) : lin X pzero n = pzero := by
  funext m
  show sumN n (fun j => 0 * X j m) = 0
  rw [sumN_congr (g := fun _ => 0) fun j _ => Int.zero_mul _, sumN_zero]
theorem lin_lin (r X : Nat → PS) (c : PS) (n : Nat) : ∀ N, lin r (lin X c N) n = lin (fun k => lin r (X k) n) c N
  | 0 => lin_pzero r n
  | N + 1 => by
    show lin r (padd (lin X c N) (psmul (c N) (X N))) n = padd (lin (fun k => lin r (X k) n) c N) (psmul (c N) (lin r (X N) n))
    rw [lin_add, lin_smul, lin_lin r X c n N]
def sumP (n : Nat) (G : Nat → PS) : PS := fun m => sumN n (fun i => G i m)
theorem lin_sumP (r : Nat → PS) (G : Nat → PS) (k : Nat) : ∀ n, lin r (sumP n G) k = sumP n (fun i => lin r (G i) k)
  | 0 => lin_pzero r k
  | n + 1 => by
    show lin r (padd (sumP n G) (G n)) k = padd (sumP n fun i => lin r (G i) k) (lin r (G n) k)
    rw [lin_add, lin_sumP r G k n]
theorem sumP_eqp {p : Int} {n : Nat} {G H : Nat → PS} (h : ∀ i, i < n → Eqp p (G i) (H i)) : Eqp p (sumP n G) (sumP n H) := fun m => sumN_emod fun i hi => h i hi m
theorem sumP_add (n : Nat) (G H : Nat → PS) : sumP n (fun i => padd (G i) (H i)) = padd (sumP n G) (sumP n H) := by
  funext m; exact sumN_add n _ _
theorem sumP_smul (n : Nat) (c : Int) (G : Nat → PS) : sumP n (fun i => psmul c (G i)) = psmul c (sumP n G) := by
  funext m; exact sumN_mul n c _
theorem sumP_single {n k : Nat} (hk : k < n) {G : Nat → PS} (h : ∀ i, i < n → i ≠ k → G i = pzero) : sumP n G = G k := by
  funext m; exact sumN_single hk fun i hi hne => by rw [h i hi hne]; rfl
/-- The unit vector i, led k times. -/
def pwS (r : Nat → PS) (n i : Nat) : Nat → PS
  | 0 => mono 1 i
  | k + 1 => lin r (pwS r n i k) n
/-- What a vector of polynomials comes to. -/
def phi (r : Nat → PS) (n N : Nat) (f : Nat → PS) : PS := sumP n (fun i => lin (pwS r n i) (f i) N)
theorem phi_add (r : Nat → PS) (n N : Nat) (f g : Nat → PS) : phi r n N (fun j => padd (f j) (g j)) = padd (phi r n N f) (phi r n N g) := by
  unfold phi; rw [← sumP_add]; congr 1; funext i; exact lin_add _ _ _ _
theorem phi_smul (r : Nat → PS) (n N : Nat) (c : Int) (f : Nat → PS) : phi r n N (fun j => psmul c (f j)) = psmul c (phi r n N f) := by
  unfold phi; rw [← sumP_smul]; congr 1; funext i; exact lin_smul _ _ _ _
theorem phi_eqp {p : Int} (r : Nat → PS) (n N : Nat) {f g : Nat → PS} (h : ∀ j, j < n → Eqp p (g j) (f j)) : Eqp p (phi r n N g) (phi r n N f) := sumP_eqp fun i hi => lin_congr (h i hi) N
theorem lin_shift (X : Nat → PS) (c : PS) (N : Nat) : lin X (pmul xx c) (N + 1) = lin (fun k => X (k + 1)) c N := by
  funext m
  show sumN (N + 1) (fun j => pmul (mono 1 1) c j * X j m) = sumN N (fun j => c j * X (j + 1) m)
  rw [sumN_first, mono_mul, if_neg (by omega), Int.zero_mul, Int.zero_add]
  exact sumN_congr fun j _ => by rw [mono_mul, if_pos (by omega), Int.one_mul, Nat.add_sub_cancel]
theorem phi_shift (r : Nat → PS) (n N : Nat) (f : Nat → PS) : phi r n (N + 1) (fun j => pmul xx (f j)) = lin r (phi r n N f) n := by
  unfold phi
  rw [lin_sumP]; congr 1; funext i
  rw [lin_shift, lin_lin]; rfl
def Ph (p : Int) (r : Nat → PS) (n : Nat) (f : Nat → PS) (w : PS) : Prop := ∃ N0, ∀ N, N0 ≤ N → Eqp p (phi r n N f) w
theorem Ph.add {p : Int} {r : Nat → PS} {n : Nat} {f g : Nat → PS} {w v : PS} (h : Ph p r n f w) (k : Ph p r n g v) : Ph p r n (fun j => padd (f j) (g j)) (padd w v) := by
  obtain ⟨N, h⟩ := h; obtain ⟨M, k⟩ := k
  exact ⟨N + M, fun L hL => by rw [phi_add]; exact Eqp.add (h L (by omega)) (k L (by omega))⟩
theorem Ph.smul {p : Int} {r : Nat → PS} {n : Nat} {f : Nat → PS} {w : PS} (c : Int) (h : Ph p r n f w) : Ph p r n (fun j => psmul c (f j)) (psmul c w) := by
  obtain ⟨N, h⟩ := h
  exact ⟨N, fun L hL => by rw [phi_smul]; exact Eqp.smul (h L hL)⟩
theorem Ph.shift {p : Int} {r : Nat → PS} {n : Nat} {f : Nat → PS} {w : PS} (h : Ph p r n f w) : Ph p r n (fun j => pmul xx (f j)) (lin r w n) := by
  obtain ⟨N, h⟩ := h
  refine ⟨N + 1, fun L hL => ?_⟩
  obtain ⟨L, rfl⟩ : ∃ k, L = k + 1 := ⟨L - 1, by omega⟩
  rw [phi_shift]; exact lin_congr (h L (by omega)) n
theorem Ph.congr {p : Int} {r : Nat → PS} {n : Nat} {f g : Nat → PS} {w v : PS} (h : Ph p r n f w) (e : ∀ j, j < n → Eqp p (g j) (f j)) (e2 : Eqp p w v) : Ph p r n g v := by
  obtain ⟨N, h⟩ := h
  exact ⟨N, fun L hL => ((phi_eqp r n L e).trans (h L hL)).trans e2⟩
theorem Ph.same {p : Int} {r : Nat → PS} {n : Nat} {f : Nat → PS} {w v : PS} (h : Ph p r n f w) (k : Ph p r n f v) : Eqp p w v := by
  obtain ⟨N, h⟩ := h; obtain ⟨M, k⟩ := k
  exact (h (N + M) (by omega)).symm.trans (k (N + M) (by omega))
theorem Ph.const (p : Int) (r : Nat → PS) (n : Nat) (c : PS) : Ph p r n (fun j => psmul (c j) pone) (sumP n fun j => psmul (c j) (mono 1 j)) := by
  refine ⟨1, fun N hN => Eqp.of_eq ?_⟩
  unfold phi
  congr 1; funext i
  rw [lin_smul]; congr 1
  rw [show pone = mono 1 0 from rfl, lin_mono _ (by omega)]; rfl
theorem Ph.fin (p : Int) (r : Nat → PS) (n : Nat) {f : Nat → PS} (hf : ∀ j, j < n → FnS (f j)) : ∃ w, Ph p r n f w := by
  have : ∃ N, ∀ j, j < n → Fin0 (f j) N := by
    clear p r
    induction n with
    | zero => exact ⟨0, fun j h => absurd h (by omega)⟩
    | succ n ih =>
      obtain ⟨N, hN⟩ := ih fun j hj => hf j (by omega)
      obtain ⟨M, hM⟩ := hf n (by omega)
      refine ⟨N + M, fun j hj i hi => ?_⟩
      by_cases e : j = n
      · subst e; exact hM i (by omega)
      · exact hN j (by omega) i (by omega)
  obtain ⟨N, hN⟩ := this
  refine ⟨phi r n N f, N, fun L hL => sumP_eqp fun i hi => Eqp.of_eq (lin_ge (hN i hi) hL)⟩
theorem sumP_units {n : Nat} {c : PS} (hc : Fin0 c n) : sumP n (fun j => psmul (c j) (mono 1 j)) = c := by
  funext m
  show sumN n (fun j => c j * mono 1 j m) = c m
  by_cases hm : m < n
  · rw [sumN_single hm fun i _ hne => by unfold mono; rw [if_neg (fun e => hne e.symm), Int.mul_zero]]
    unfold mono; rw [if_pos rfl, Int.mul_one]
  · rw [sumN_congr (g := fun _ => 0) fun i hi => by unfold mono; rw [if_neg (by omega), Int.mul_zero], sumN_zero, hc m (by omega)]
end Go.Proofs.Ytnkkkgaojhkniab

/- One generator: there is a vector whose order has the degree n. No program in sight. -/
namespace Go.Proofs.Ytnkkkgaojhkniab

/-- A vector, led k times. -/
def itS (r : Nat → PS) (n : Nat) (v : PS) : Nat → PS
  | 0 => v
  | k + 1 => lin r (itS r n v k) n
theorem ahead_mono {X : Nat → PS} {K L : Nat} (h : K ≤ L) : ∀ v ∈ ahead X K, v ∈ ahead X L := fun v hv => by
  obtain ⟨j, hj, rfl⟩ := List.mem_map.1 hv
  exact ahead_mem X (by have := List.mem_range.1 hj; omega)
theorem Sp.led {p : Int} {r : Nat → PS} {n : Nat} {v : PS} {K : Nat} {w : PS} (h : Sp p (ahead (itS r n v) K) w) : Sp p (ahead (itS r n v) (K + 1)) (lin r w n) := by
  induction h with
  | zero h => exact .zero ((lin_congr h n).trans (Eqp.of_eq (lin_pzero r n)))
  | step t hv _ h ih =>
    obtain ⟨j, hj, rfl⟩ := List.mem_map.1 hv
    refine (ih.add ((Sp.mem (ahead_mem (itS r n v) (show j + 1 < K + 1 by have := List.mem_range.1 hj; omega))).smul t)).congr ?_
    refine (lin_congr h n).trans (Eqp.of_eq ?_)
    rw [lin_add, lin_smul]; rfl
theorem mono_Fin0 {i n : Nat} (h : i < n) : Fin0 (mono 1 i) n := fun j hj => by unfold mono; rw [if_neg (by omega)]
theorem Ph.row {p : Int} {r : Nat → PS} {n : Nat} {A : Nat → Nat → PS} (hr : ∀ i, i < n → Fin0 (r i) n) (hA : ∀ i j, i < n → j < n → Eqp p (A i j) (padd (if j = i then xx else pzero) (psmul (-1) (psmul (r i j) pone)))) {i : Nat} (hi : i < n) : Ph p r n (A i) pzero := by
  have h1 := (Ph.const p r n (mono 1 i)).shift
  have h2 := (Ph.const p r n (r i)).smul (-1)
  rw [sumP_units (mono_Fin0 hi), lin_mono r hi] at h1
  rw [sumP_units (hr i hi)] at h2
  refine (h1.add h2).congr (fun j hj => (hA i j hi hj).trans (Eqp.of_eq ?_)) (Eqp.of_eq ?_)
  · congr 1
    unfold mono
    by_cases e : j = i
    · rw [if_pos e, if_pos e, psmul_one]
      rw [show pone = fun n => if n = 0 then (1 : Int) else 0 from rfl]
      have := pmul_one xx
      exact this.symm
    · rw [if_neg e, if_neg e, psmul_zero, pmul_comm, pzero_mul]
  · funext m; show r i m + -1 * r i m = 0; omega
theorem Cy.span {p : Int} {r : Nat → PS} {n : Nat} {A : Nat → Nat → PS} (hr : ∀ i, i < n → Fin0 (r i) n) (hA : ∀ i j, i < n → j < n → Eqp p (A i j) (padd (if j = i then xx else pzero) (psmul (-1) (psmul (r i j) pone)))) {u f : Nat → PS} {v : PS} (hu : Ph p r n u v) (hf : Cy p n A u f) :
    ∃ w K, Ph p r n f w ∧ Sp p (ahead (itS r n v) K) w := by
  induction hf with
  | gen => exact ⟨v, 1, hu, Sp.mem (ahead_mem (itS r n v) (show 0 < 1 by omega))⟩
  | row i hi => exact ⟨pzero, 0, Ph.row hr hA hi, .zero (Eqp.refl _)⟩
  | zero => exact ⟨pzero, 0, ⟨0, fun N _ => Eqp.of_eq (by
      unfold phi; funext m
      show sumN n (fun i => lin (pwS r n i) pzero N m) = 0
      rw [sumN_congr (g := fun _ => 0) fun i _ => by rw [lin_pzero]; rfl, sumN_zero])⟩, .zero (Eqp.refl _)⟩
  | add _ _ h1 h2 =>
    obtain ⟨w, K, a, b⟩ := h1
    obtain ⟨x, L, c, d⟩ := h2
    exact ⟨_, K + L, a.add c, (b.mono (ahead_mono (by omega))).add (d.mono (ahead_mono (by omega)))⟩
  | smul c _ h1 => obtain ⟨w, K, a, b⟩ := h1; exact ⟨_, K, a.smul c, b.smul c⟩
  | shift _ h1 => obtain ⟨w, K, a, b⟩ := h1; exact ⟨_, K + 1, a.shift, b.led⟩
  | congr _ e h1 => obtain ⟨w, K, a, b⟩ := h1; exact ⟨w, K, a.congr e (Eqp.refl _), b⟩
theorem Sp.empty {p : Int} {w : PS} (h : Sp p [] w) : Eqp p w pzero := by
  cases h with
  | zero h => exact h
  | step t hv _ _ => cases hv
/-- No more places than vectors. -/
theorem places_le {p : Int} (hp : Pr p) : ∀ (l : List PS) (J : List Nat), J.Nodup → (∀ j ∈ J, ∃ w, Sp p l w ∧ ∀ i ∈ J, w i % p = if i = j then 1 else 0) → J.length ≤ l.length
  | [], J, _, h => by
    have hp2 := hp.pos
    cases J with
    | nil => exact Nat.le_refl _
    | cons j J =>
      obtain ⟨w, hw, h1⟩ := h j (by simp)
      have h2 := h1 j (by simp)
      rw [if_pos rfl] at h2
      have h3 := hw.empty j
      rw [h2] at h3
      have : (1 : Int) = 0 := h3.trans (Int.zero_emod p)
      omega
  | v :: l, J, hJ, h => by
    have hp2 := hp.pos
    by_cases hall : ∀ j ∈ J, ∃ w, Sp p l w ∧ ∀ i ∈ J, w i % p = if i = j then 1 else 0
    · have := places_le hp l J hJ hall
      simp only [List.length_cons]; omega
    · obtain ⟨j0, h0⟩ := Classical.not_forall.1 hall
      obtain ⟨hj0, h0⟩ := Classical.not_imp.1 h0
      obtain ⟨w0, hw0, hv0⟩ := h j0 hj0
      obtain ⟨t0, g0, hg0, e0⟩ := hw0.head
      have ht0 : t0 % p ≠ 0 := fun hz => h0 ⟨w0, hg0.congr (e0.trans fun i => by
        show (t0 * v i + g0 i) % p = g0 i % p
        rw [Int.add_emod, Int.mul_emod, hz, Int.zero_mul, Int.zero_emod, Int.zero_add, Int.emod_emod_of_dvd _ (Int.dvd_refl p)]), hv0⟩
      have hs0 : 0 < t0 % p ∧ t0 % p < p := ⟨by have := Int.emod_nonneg t0 (show p ≠ 0 by omega); omega, Int.emod_lt_of_pos _ (by omega)⟩
      obtain ⟨_, _, hinv⟩ := invp_spec hp hs0.1 hs0.2
      obtain ⟨y, hy⟩ : ∃ y, invp p (t0 % p) = y := ⟨_, rfl⟩
      rw [hy] at hinv
      have hyt : y * t0 % p = 1 := by rw [Int.mul_emod, ← hinv, Int.mul_emod y (t0 % p), Int.emod_emod_of_dvd _ (Int.dvd_refl p)]
      have hlen : (J.erase j0).length + 1 = J.length := by have := List.length_erase_of_mem hj0; have := List.length_pos_of_mem hj0; omega
      have hrec := places_le hp l (J.erase j0) (hJ.erase j0) fun j hj => by
        have hjm := (List.Nodup.mem_erase_iff hJ).1 hj
        obtain ⟨w, hw, hv⟩ := h j hjm.2
        obtain ⟨t, g, hg, e⟩ := hw.head
        refine ⟨padd w (psmul (-(t * y)) w0), ?_, fun i hi => ?_⟩
        · refine (hg.add (hg0.smul (-(t * y)))).congr ?_
          refine (Eqp.add e (Eqp.smul e0)).trans fun i => ?_
          show (t * v i + g i + -(t * y) * (t0 * v i + g0 i)) % p = (g i + -(t * y) * g0 i) % p
          obtain ⟨z, hz⟩ : ∃ z, y * t0 = 1 + p * z := ⟨y * t0 / p, by have := Int.emod_add_mul_ediv (y * t0) p; rw [hyt] at this; exact this.symm⟩
          have : t * v i + g i + -(t * y) * (t0 * v i + g0 i) = (g i + -(t * y) * g0 i) + p * (-(t * z * v i)) := by
            have h9 : t * y * (t0 * v i) = t * v i * (y * t0) := by rw [Int.mul_assoc, Int.mul_left_comm y t0, ← Int.mul_assoc t0, Int.mul_comm (t0 * y), ← Int.mul_assoc t, Int.mul_comm t0 y]
            rw [Int.mul_add, Int.neg_mul, Int.neg_mul, h9, hz, Int.mul_add, Int.mul_one, Int.mul_neg]
            have h8 : t * v i * (p * z) = p * (t * z * v i) := by rw [Int.mul_left_comm, Int.mul_assoc t, Int.mul_comm (v i) z, ← Int.mul_assoc t]
            rw [h8]; omega
          rw [this, Int.add_mul_emod_self_left]
        · have hi' := (List.Nodup.mem_erase_iff hJ).1 hi
          show (w i + -(t * y) * w0 i) % p = if i = j then 1 else 0
          have e1 := hv0 i hi'.2
          rw [if_neg hi'.1] at e1
          rw [Int.add_emod, Int.mul_emod (-(t * y)), e1, Int.mul_zero, Int.zero_emod, Int.add_zero, Int.emod_emod_of_dvd _ (Int.dvd_refl p)]
          exact hv i hi'.2
      simp only [List.length_cons]; omega
/-- Where all is made of one vector, its order has no degree below n. -/
theorem order_ge {p : Int} (hp : Pr p) {r : Nat → PS} {n : Nat} {A : Nat → Nat → PS} (hr : ∀ i, i < n → Fin0 (r i) n) (hA : ∀ i j, i < n → j < n → Eqp p (A i j) (padd (if j = i then xx else pzero) (psmul (-1) (psmul (r i j) pone)))) {u : Nat → PS} {v : PS} (hcy : CycP p n A u) (hu : Ph p r n u v) {d : Nat} {c : List Int} (h : Rel p (itS r n v) d c) : n ≤ d := by
  have hp2 := hp.pos
  have hd := h.Sp
  have hsub : ∀ {f : PS}, Sp p (ahead (itS r n v) (d + 1)) f → Sp p (ahead (itS r n v) d) f := fun hf => hf.sub fun x hx => by
    obtain ⟨j, hj, rfl⟩ := List.mem_map.1 hx
    by_cases e : j = d
    · subst e; exact hd
    · exact Sp.mem (ahead_mem _ (by have := List.mem_range.1 hj; omega))
  have hall : ∀ k, Sp p (ahead (itS r n v) d) (itS r n v k) := fun k => by
    induction k with
    | zero =>
      by_cases e : 0 < d
      · exact Sp.mem (ahead_mem _ e)
      · obtain rfl : d = 0 := by omega
        exact hd
    | succ k ih => exact hsub ih.led
  have hun : ∀ j, j < n → Sp p (ahead (itS r n v) d) (mono 1 j) := fun j hj => by
    have hf : Cy p n A u (fun i => psmul (mono 1 j i) pone) := hcy _ fun i _ => ⟨1, fun m hm => by show mono 1 j i * pone m = 0; unfold pone; rw [if_neg (by omega), Int.mul_zero]⟩
    obtain ⟨w, K, h1, h2⟩ := hf.span hr hA hu
    have h3 := Ph.const p r n (mono 1 j)
    rw [sumP_units (mono_Fin0 hj)] at h3
    exact (h2.sub fun x hx => by
      obtain ⟨k, _, rfl⟩ := List.mem_map.1 hx
      exact hall k).congr (h3.same h1)
  have := places_le hp (ahead (itS r n v) d) (List.range n) List.nodup_range fun j hj => ⟨mono 1 j, hun j (List.mem_range.1 hj), fun i _ => by
    unfold mono
    by_cases e : i = j
    · rw [if_pos e]; exact Int.emod_eq_of_lt (by omega) (by omega)
    · rw [if_neg e]; exact Int.zero_emod p⟩
  rw [List.length_range] at this
  unfold ahead at this
  rw [List.length_map, List.length_range] at this
  exact this
end Go.Proofs.Ytnkkkgaojhkniab

/- A cyclic module has a vector whose order has the degree n. No program in sight. -/
namespace Go.Proofs.Ytnkkkgaojhkniab

theorem pwS_fin {r : Nat → PS} {n i : Nat} (hr : ∀ i, i < n → Fin0 (r i) n) (hi : i < n) : ∀ k, Fin0 (pwS r n i k) n
  | 0 => mono_Fin0 hi
  | k + 1 => fun m hm => by
    show sumN n (fun j => pwS r n i k j * r j m) = 0
    rw [sumN_congr (g := fun _ => 0) fun j hj => by rw [hr j hj m hm, Int.mul_zero], sumN_zero]
theorem Ph.tail {p : Int} {r : Nat → PS} {n : Nat} {f : Nat → PS} {w : PS} (hr : ∀ i, i < n → Fin0 (r i) n) (h : Ph p r n f w) (m : Nat) (hm : n ≤ m) : w m % p = 0 := by
  obtain ⟨N, h⟩ := h
  have h1 := h N (Nat.le_refl N) m
  have h2 : phi r n N f m = 0 := by
    show sumN n (fun i => sumN N (fun k => f i k * pwS r n i k m)) = 0
    rw [sumN_congr (g := fun _ => 0) fun i hi => by
      rw [sumN_congr (g := fun _ => 0) fun k _ => by rw [pwS_fin hr hi k m hm, Int.mul_zero], sumN_zero], sumN_zero]
  rw [h2, Int.zero_emod] at h1
  exact h1.symm
theorem lin_eqpX {p : Int} {X Y : Nat → PS} (h : ∀ k, Eqp p (X k) (Y k)) (c : PS) (n : Nat) : Eqp p (lin X c n) (lin Y c n) := fun i => sumN_emod fun j _ => emod_mul_congr rfl (h j i)
theorem itS_lpw {p : Int} {rows : Nat → List Int} {n : Nat} (hrl : ∀ i, (rows i).length ≤ n) {xs : List Int} (hx : xs.length ≤ n) : ∀ k, Eqp p (itS (fun i => cf (rows i)) n (cf xs) k) (cf (lpw p rows xs k))
  | 0 => Eqp.refl _
  | k + 1 => (lin_congr (itS_lpw hrl hx k) n).trans (led_eqp p rows (lpw_len hrl hx k)).symm
theorem cyc_vec {p : Int} (hp : Pr p) {n : Nat} (hn : 0 < n) {rows : Nat → List Int} (hrl : ∀ i, (rows i).length ≤ n) {A : Nat → Nat → PS} (hA : ∀ i j, i < n → j < n → Eqp p (A i j) (padd (if j = i then xx else pzero) (psmul (-1) (psmul (cf (rows i) j) pone)))) {M : MxL} (hSm : Sm p n A n M) (hu : ∀ i, i + 1 < n → (M i i).length = 1) :
    ∃ xs, Po p xs ∧ xs.length ≤ n ∧ ∀ d c, Rel p (fun j => cf (lpw p rows xs j)) d c → n ≤ d := by
  have hp2 := hp.pos
  have hr : ∀ i, i < n → Fin0 (cf (rows i)) n := fun i _ j hj => cf_ge _ _ (Nat.le_trans (hrl i) hj)
  obtain ⟨u, huf, hcy⟩ := hSm.eqv.cyc (diag_cyc hp hn (fun i j hi hj hne => (hSm.low i hi j hj (fun e => hne e.symm)).1) fun i hi => ⟨hSm.po i i (by omega) (by omega), hu i hi⟩)
  obtain ⟨v, hv⟩ := Ph.fin p (fun i => cf (rows i)) n huf
  have ht := hv.tail hr
  have hlow : Eqp p (cf (low p n v)) v := fun i => by
    unfold low
    rw [mkp_cf]; split
    · exact Int.emod_emod_of_dvd _ (Int.dvd_refl p)
    · rw [ht i (by omega)]; exact Int.zero_emod p
  have hxl : (low p n v).length ≤ n := mkp_length n _
  refine ⟨low p n v, low_Po (by omega) n v, hxl, fun d c h => ?_⟩
  refine order_ge hp hr hA hcy (hv.congr (fun j _ => Eqp.refl _) hlow.symm) (d := d) (c := c) ⟨h.po, h.len, h.one, (lin_eqpX (itS_lpw hrl hxl) (cf c) (d + 1)).trans h.zero⟩
end Go.Proofs.Ytnkkkgaojhkniab

/- Numbers and their digits; the next number. No program in sight. -/
namespace Go.Proofs.Ytnkkkgaojhkniab
/-- Digit e of K in base p. -/
def dig (p K e : Nat) : Nat := K / p ^ e % p
theorem dig_low {p : Nat} (hp : 2 ≤ p) {K : Nat} : ∀ j, (∀ e, e < j → dig p K e = p - 1) → K % p ^ j = p ^ j - 1
  | 0, _ => by rw [Nat.pow_zero, Nat.mod_one]
  | j + 1, h => by
    have h1 := dig_low hp j fun e he => h e (by omega)
    have h2 := h j (by omega)
    unfold dig at h2
    have hpos : 0 < p ^ j := Nat.pow_pos (by omega)
    rw [Nat.pow_succ, Nat.mod_mul, h1, h2, Nat.mul_sub, Nat.mul_one]
    have : p ^ j ≤ p ^ j * p := Nat.le_mul_of_pos_right _ (by omega)
    omega
theorem next_form {p : Nat} (hp : 2 ≤ p) {K j : Nat} (h : ∀ e, e < j → dig p K e = p - 1) : K + 1 = p ^ j * (K / p ^ j + 1) := by
  have h1 := dig_low hp j h
  have h2 := Nat.div_add_mod K (p ^ j)
  have hpos : 0 < p ^ j := Nat.pow_pos (by omega)
  rw [Nat.mul_add, Nat.mul_one]
  omega
theorem dig_next_at {p : Nat} (hp : 2 ≤ p) {K j : Nat} (h : ∀ e, e < j → dig p K e = p - 1) (hj : dig p K j < p - 1) : dig p (K + 1) j = dig p K j + 1 := by
  have hpos : 0 < p ^ j := Nat.pow_pos (by omega)
  unfold dig at hj ⊢
  rw [next_form hp h, Nat.mul_div_cancel_left _ hpos, Nat.add_mod, Nat.mod_eq_of_lt (show 1 < p by omega), Nat.mod_eq_of_lt (by omega)]
theorem dig_next_low {p : Nat} (hp : 2 ≤ p) {K j e : Nat} (h : ∀ e, e < j → dig p K e = p - 1) (he : e < j) : dig p (K + 1) e = 0 := by
  have hpos : 0 < p ^ e := Nat.pow_pos (by omega)
  unfold dig
  rw [next_form hp h, show j = e + ((j - e - 1) + 1) by omega, Nat.pow_add, Nat.mul_assoc, Nat.mul_div_cancel_left _ hpos, Nat.pow_succ, Nat.mul_comm (p ^ (j - e - 1)) p, Nat.mul_assoc, Nat.mul_mod_right]
theorem dig_next_high {p : Nat} (hp : 2 ≤ p) {K j e : Nat} (h : ∀ e, e < j → dig p K e = p - 1) (hj : dig p K j < p - 1) (he : j < e) : dig p (K + 1) e = dig p K e := by
  have hpos : 0 < p ^ j := Nat.pow_pos (by omega)
  unfold dig at hj ⊢
  have e1 : e = j + (1 + (e - j - 1)) := by omega
  rw [e1, Nat.pow_add, ← Nat.div_div_eq_div_mul, ← Nat.div_div_eq_div_mul, next_form hp h, Nat.mul_div_cancel_left _ hpos, Nat.pow_add, Nat.pow_one, ← Nat.div_div_eq_div_mul, ← Nat.div_div_eq_div_mul]
  congr 2
  obtain ⟨q, hq⟩ : ∃ q, K / p ^ j = q := ⟨_, rfl⟩
  rw [hq] at hj ⊢
  have h1 := Nat.div_add_mod q p
  have h2 : q + 1 = p * (q / p) + (q % p + 1) := by omega
  have h3 : (q % p + 1) / p = 0 := Nat.div_eq_of_lt (by omega)
  rw [h2, Nat.mul_add_div (show p > 0 by omega), h3, Nat.add_zero]
/-- Every row of digits is a number's. -/
theorem dig_all {p : Nat} (hp : 2 ≤ p) : ∀ (n : Nat) (f : Nat → Nat), (∀ e, e < n → f e < p) → ∃ K, K < p ^ n ∧ ∀ e, e < n → dig p K e = f e
  | 0, _, _ => ⟨0, by simp, fun e h => absurd h (by omega)⟩
  | n + 1, f, h => by
    obtain ⟨K, h1, h2⟩ := dig_all hp n (fun e => f (e + 1)) fun e he => h (e + 1) (by omega)
    have h0 := h 0 (by omega)
    refine ⟨K * p + f 0, ?_, fun e he => ?_⟩
    · rw [Nat.pow_succ]
      have : (K + 1) * p ≤ p ^ n * p := Nat.mul_le_mul_right p h1
      rw [Nat.add_mul, Nat.one_mul] at this
      omega
    · unfold dig
      rcases e with _ | e
      · rw [Nat.pow_zero, Nat.div_one, Nat.mul_comm, Nat.mul_add_mod, Nat.mod_eq_of_lt h0]
      · have h3 := h2 e (by omega)
        unfold dig at h3
        rw [Nat.pow_succ, Nat.mul_comm (p ^ e) p, ← Nat.div_div_eq_div_mul, Nat.mul_comm K p, Nat.mul_add_div (by omega), Nat.div_eq_of_lt h0, Nat.add_zero]
        exact h3
theorem dig_inj {P : Nat} (hP : 2 ≤ P) : ∀ (n : Nat) {K L : Nat}, K < P ^ n → L < P ^ n → (∀ e, e < n → dig P K e = dig P L e) → K = L
  | 0, K, L, h1, h2, _ => by simp at h1 h2; omega
  | n + 1, K, L, h1, h2, h => by
    have hs : ∀ (A e : Nat), dig P (A / P) e = dig P A (e + 1) := fun A e => by
      unfold dig; rw [Nat.div_div_eq_div_mul, Nat.pow_succ, Nat.mul_comm P]
    rw [Nat.pow_succ] at h1 h2
    have h3 := dig_inj hP n (K := K / P) (L := L / P) ((Nat.div_lt_iff_lt_mul (by omega)).2 h1) ((Nat.div_lt_iff_lt_mul (by omega)).2 h2) fun e he => by rw [hs, hs]; exact h (e + 1) (by omega)
    have h4 := h 0 (by omega)
    unfold dig at h4
    rw [Nat.pow_zero, Nat.div_one, Nat.div_one] at h4
    rw [← Nat.div_add_mod K P, ← Nat.div_add_mod L P, h3, h4]
end Go.Proofs.Ytnkkkgaojhkniab

/- The least relation of a sequence of vectors, found stage by stage; no program in sight. -/
namespace Go.Proofs.Ytnkkkgaojhkniab

/-- After i members of the lists. -/
def redN (p : Int) (pl : List Int → Nat) (K T : Nat → List Int) (v o : List Int) : Nat → List Int × List Int
  | 0 => (v, o)
  | i + 1 => (addp p (redN p pl K T v o i).1 (K i) (-(cf (redN p pl K T v o i).1 (pl (K i))) * invp p (cf (K i) (pl (K i)))), addp p (redN p pl K T v o i).2 (T i) (-(cf (redN p pl K T v o i).1 (pl (K i))) * invp p (cf (K i) (pl (K i)))))
/-- A one behind k zeros. -/
def onek (k : Nat) : List Int := List.replicate k 0 ++ [1]
theorem onek_len (k : Nat) : (onek k).length = k + 1 := by simp [onek]
theorem onek_cf (k i : Nat) : cf (onek k) i = if i = k then 1 else 0 := by
  unfold cf onek
  rw [List.getD_eq_getElem?_getD]
  by_cases h : i < k
  · rw [List.getElem?_append_left (by simpa using h), List.getElem?_replicate, if_pos h, if_neg (by omega)]; rfl
  · rw [List.getElem?_append_right (by simpa using h), List.length_replicate]
    by_cases e : i = k
    · subst e; simp
    · rw [if_neg e, List.getElem?_eq_none (by simp; omega)]; rfl
theorem onek_Po {p : Int} (hp : 2 ≤ p) (k : Nat) : Po p (onek k) := by
  refine ⟨Or.inr ?_, fun i => ?_⟩
  · rw [onek_len, Nat.add_sub_cancel, onek_cf, if_pos rfl]; decide
  · rw [onek_cf]; split <;> omega

/-- What has been found ahead of vector k. -/
structure Stage (p : Int) (x : Nat → List Int) (pl : List Int → Nat) (k : Nat) (K T : Nat → List Int) : Prop where
  po : ∀ i, i < k → Po p (K i) ∧ Po p (T i) ∧ (T i).length ≤ k ∧ cf (K i) (pl (K i)) ≠ 0
  tri : ∀ i j, i < j → j < k → cf (K j) (pl (K i)) = 0
  lin : ∀ i, i < k → Eqp p (cf (K i)) (lin (fun j => cf (x j)) (cf (T i)) k)
  all : ∀ j, j < k → Sp p ((List.range k).map fun i => cf (K i)) (cf (x j))
  none : ∀ j, j < k → ¬ ∃ e, Rel p (fun j => cf (x j)) j e
theorem Stage.zero (p : Int) (x : Nat → List Int) (pl : List Int → Nat) (K T : Nat → List Int) : Stage p x pl 0 K T :=
  ⟨fun _ h => absurd h (by omega), fun _ _ _ h => absurd h (by omega), fun _ h => absurd h (by omega), fun _ h => absurd h (by omega), fun _ h => absurd h (by omega)⟩
theorem triF {p : Int} {K : Nat → List Int} {pl : List Int → Nat} : ∀ k, (∀ i, i < k → cf (K i) (pl (K i)) % p ≠ 0) → (∀ i j, i < j → j < k → cf (K j) (pl (K i)) = 0) → Tri p ((List.range k).map fun i => (cf (K i), pl (K i)))
  | 0, _, _ => trivial
  | k + 1, h1, h2 => by
    rw [List.range_succ, List.map_append]
    refine Tri.snoc _ _ (triF k (fun i hi => h1 i (by omega)) fun i j hij hj => h2 i j hij (by omega)) (h1 k (by omega)) fun y hy => ?_
    obtain ⟨i, hi, rfl⟩ := List.mem_map.1 hy
    have := List.mem_range.1 hi
    show cf (K k) (pl (K i)) % p = 0
    rw [h2 i k this (by omega)]; simp
theorem Po.emod_ne {p : Int} {a : List Int} (h : Po p a) {i : Nat} (hn : cf a i ≠ 0) : cf a i % p ≠ 0 := by
  rw [Int.emod_eq_of_lt (h.md i).1 (h.md i).2]; exact hn
theorem Po.eq_zero {p : Int} {a : List Int} (h : Po p a) {i : Nat} (hn : cf a i % p = 0) : cf a i = 0 := by
  rwa [Int.emod_eq_of_lt (h.md i).1 (h.md i).2] at hn
theorem Stage.known {p : Int} {x : Nat → List Int} {pl : List Int → Nat} {k : Nat} {K T : Nat → List Int} (h : Stage p x pl k K T) : Known p (fun j => cf (x j)) k ((List.range k).map fun i => (cf (K i), pl (K i))) := by
  refine ⟨triF k (fun i hi => (h.po i hi).1.emod_ne (h.po i hi).2.2.2) h.tri, fun j hj => ?_, h.none⟩
  rw [List.map_map]; exact h.all j hj
/-- No more stages than places. -/
theorem Stage.le {p : Int} {x : Nat → List Int} {pl : List Int → Nat} {k N : Nat} {K T : Nat → List Int} (h : Stage p x pl k K T) (hN : ∀ i, i < k → pl (K i) < N) : k ≤ N := by
  have h1 := Tri.places _ h.known.tri
  have h2 := nodup_bound N _ h1 fun q hq => by
    rw [List.map_map] at hq
    obtain ⟨i, hi, rfl⟩ := List.mem_map.1 hq
    exact hN i (List.mem_range.1 hi)
  simpa using h2
theorem red_step {p v b l : Int} (hl : l * b % p = 1) : (v + -v * l * b) % p = 0 := by
  have e : v + -v * l * b = v * (1 - l * b) := by
    rw [Int.mul_sub, Int.mul_one, Int.sub_eq_add_neg, Int.neg_mul, Int.neg_mul, Int.mul_assoc]
  rw [e, Int.mul_emod, Int.sub_emod, hl]
  by_cases h1 : p = 1
  · subst h1; simp
  · have : (1 : Int) % p = 1 % p := rfl
    have e2 : (1 % p - 1) % p = 0 := by
      rw [Int.sub_emod, Int.emod_emod_of_dvd _ (Int.dvd_refl p), ← Int.sub_emod]; simp
    rw [e2]; simp
structure Red (p : Int) (x : Nat → List Int) (pl : List Int → Nat) (k : Nat) (K : Nat → List Int) (i : Nat) (v o : List Int) : Prop where
  pv : Po p v
  po : Po p o
  len : o.length = k + 1
  one : cf o k = 1
  lin : Eqp p (cf v) (lin (fun j => cf (x j)) (cf o) (k + 1))
  zero : ∀ j, j < i → cf v (pl (K j)) = 0
  sp : Sp p ((List.range k).map fun j => cf (K j)) (padd (cf v) (psmul (-1) (cf (x k))))
theorem Stage.red {p : Int} (hp : Pr p) {x : Nat → List Int} {pl : List Int → Nat} {k : Nat} {K T : Nat → List Int} (h : Stage p x pl k K T) (hx : Po p (x k)) : ∀ i, i ≤ k → Red p x pl k K i (redN p pl K T (x k) (onek k) i).1 (redN p pl K T (x k) (onek k) i).2
  | 0, _ => by
    have hp2 := hp.pos
    refine ⟨hx, onek_Po hp2.1 k, onek_len k, by rw [show (redN p pl K T (x k) (onek k) 0).2 = onek k from rfl, onek_cf, if_pos rfl], ?_, fun _ h => absurd h (by omega), ?_⟩
    · have e : cf (onek k) = mono 1 k := by funext i; rw [onek_cf]; rfl
      show Eqp p (cf (x k)) (Go.Proofs.Ytnkkkgaojhkniab.lin _ (cf (onek k)) (k + 1))
      rw [e, lin_mono _ (by omega : k < k + 1)]
      exact Eqp.refl _
    · refine .zero (Eqp.of_eq ?_)
      funext i
      show cf (x k) i + -1 * cf (x k) i = 0
      omega
  | i + 1, hi => by
    have hp2 := hp.pos
    have ih := Stage.red hp h hx i (by omega)
    obtain ⟨hK, hT, hTl, hK0⟩ := h.po i (by omega)
    show Red p x pl k K (i + 1) (addp p (redN p pl K T (x k) (onek k) i).1 (K i) (-(cf (redN p pl K T (x k) (onek k) i).1 (pl (K i))) * invp p (cf (K i) (pl (K i))))) (addp p (redN p pl K T (x k) (onek k) i).2 (T i) (-(cf (redN p pl K T (x k) (onek k) i).1 (pl (K i))) * invp p (cf (K i) (pl (K i)))))
    generalize (redN p pl K T (x k) (onek k) i).1 = v at *
    generalize (redN p pl K T (x k) (onek k) i).2 = o at *
    have hinv := (invp_spec hp (show 0 < cf (K i) (pl (K i)) by have := (hK.md (pl (K i))).1; omega) (hK.md _).2).2.2
    obtain ⟨f, hf⟩ : ∃ f, -(cf v (pl (K i))) * invp p (cf (K i) (pl (K i))) = f := ⟨_, rfl⟩
    have hz : (cf v (pl (K i)) + f * cf (K i) (pl (K i))) % p = 0 := by rw [← hf]; exact red_step hinv
    rw [hf]
    have hPv := addp_Po (p := p) (by omega) v (K i) f
    have hPo := addp_Po (p := p) (by omega) o (T i) f
    have hok : cf (addp p o (T i) f) k = 1 := by
      rw [addp_cf, ih.one, cf_ge (T i) k (by omega), Int.mul_zero, Int.add_zero]
      exact Int.emod_eq_of_lt (by omega) (by omega)
    have hol : (addp p o (T i) f).length = k + 1 := by
      have h1 := addp_length p o (T i) f
      have h2 : k < (addp p o (T i) f).length := Nat.lt_of_not_le fun h3 => by rw [cf_ge _ _ h3] at hok; omega
      have := ih.len
      omega
    refine ⟨hPv, hPo, hol, hok, ?_, fun j hj => ?_, ?_⟩
    · refine (addp_eqp p v (K i) f).trans ?_
      refine Eqp.trans ?_ (lin_congr (addp_eqp p o (T i) f) (k + 1)).symm
      rw [lin_add, lin_smul]
      refine Eqp.add ih.lin (Eqp.smul ?_)
      rw [lin_ge (cf_Fin0 (T i)) (show (T i).length ≤ k + 1 by omega)]
      have h3 := h.lin i (by omega)
      rwa [lin_ge (cf_Fin0 (T i)) hTl] at h3
    · refine hPv.eq_zero ?_
      rw [addp_cf, Int.emod_emod_of_dvd _ (Int.dvd_refl p)]
      by_cases e : j = i
      · subst e; exact hz
      · rw [ih.zero j (by omega), h.tri j i (by omega) (by omega)]; simp
    · refine (ih.sp.add ((Sp.mem (p := p) (List.mem_map.2 ⟨i, List.mem_range.2 (by omega), rfl⟩)).smul f)).congr ?_
      refine (Eqp.add (addp_eqp p v (K i) f) (Eqp.refl _)).trans (Eqp.of_eq ?_)
      funext n
      show cf v n + f * cf (K i) n + -1 * cf (x k) n = cf v n + -1 * cf (x k) n + f * cf (K i) n
      omega
theorem Red.done {p : Int} {x : Nat → List Int} {pl : List Int → Nat} {k i : Nat} {K : Nat → List Int} {v o : List Int} (h : Red p x pl k K i v o) (hv : v = []) : Rel p (fun j => cf (x j)) k o := by
  refine ⟨h.po, h.len, h.one, h.lin.symm.trans (Eqp.of_eq ?_)⟩
  rw [hv]; funext n; exact cf_nil n
theorem not_zero {p : Int} {v : List Int} (hv : Po p v) (hn : v ≠ []) : ¬ Eqp p (cf v) pzero := fun e => hn (hv.ext ⟨Tr_nil, fun i => by rw [cf_nil]; have := hv.md 0; omega⟩ fun i => by
  rw [cf_nil]
  have h1 := e i
  refine hv.eq_zero ?_
  rw [h1]; exact Int.zero_emod p)
theorem Stage.no {p : Int} (hp : Pr p) {x : Nat → List Int} {pl : List Int → Nat} {k : Nat} {K T : Nat → List Int} (h : Stage p x pl k K T) {v o : List Int} (hr : Red p x pl k K k v o) (hn : v ≠ []) : ¬ ∃ e, Rel p (fun j => cf (x j)) k e := by
  refine h.known.no hp (v := cf v) ?_ ?_ (not_zero hr.pv hn)
  · rw [List.map_map]; exact hr.sp
  · intro y hy
    obtain ⟨i, hi, rfl⟩ := List.mem_map.1 hy
    show cf v (pl (K i)) % p = 0
    rw [hr.zero i (List.mem_range.1 hi)]; exact Int.zero_emod p
/-- A member put in. -/
def insF {α : Type} (a : Nat) (v : α) (K : Nat → α) (i : Nat) : α := if i < a then K i else if i = a then v else K (i - 1)
theorem insF_lt {α : Type} {a i : Nat} {v : α} {K : Nat → α} (h : i < a) : insF a v K i = K i := if_pos h
theorem insF_at {α : Type} (a : Nat) (v : α) (K : Nat → α) : insF a v K a = v := by unfold insF; rw [if_neg (Nat.lt_irrefl a), if_pos rfl]
theorem insF_gt {α : Type} {a i : Nat} {v : α} {K : Nat → α} (h : a < i) : insF a v K i = K (i - 1) := by unfold insF; rw [if_neg (by omega), if_neg (by omega)]
theorem insF_cases {α : Type} {a k i : Nat} (v : α) (K : Nat → α) (ha : a ≤ k) (hi : i < k + 1) : (insF a v K i = v ∧ i = a) ∨ ∃ j, j < k ∧ insF a v K i = K j ∧ ((i < a ∧ j = i) ∨ (a < i ∧ i = j + 1)) := by
  by_cases h : i < a
  · exact .inr ⟨i, by omega, insF_lt h, .inl ⟨h, rfl⟩⟩
  · by_cases e : i = a
    · subst e; exact .inl ⟨insF_at _ _ _, rfl⟩
    · exact .inr ⟨i - 1, by omega, insF_gt (by omega), .inr ⟨by omega, by omega⟩⟩
theorem Stage.next {p : Int} (hp : Pr p) {x : Nat → List Int} {pl : List Int → Nat} {k : Nat} {K T : Nat → List Int} (h : Stage p x pl k K T) {v o : List Int} (hr : Red p x pl k K k v o) (hn : v ≠ [])
    (v' o' : List Int) (d : Int) (hv : Po p v') (ho : Po p o') (hol : o'.length ≤ k + 1) (hv0 : cf v' (pl v') ≠ 0) (hd : Eqp p (cf v) (psmul d (cf v'))) (hl : Eqp p (cf v') (Go.Proofs.Ytnkkkgaojhkniab.lin (fun j => cf (x j)) (cf o') (k + 1)))
    (hz : ∀ i, i < k → cf v' (pl (K i)) = 0) (a : Nat) (ha : a ≤ k) (hza : ∀ i, a ≤ i → i < k → cf (K i) (pl v') = 0) : Stage p x pl (k + 1) (insF a v' K) (insF a o' T) := by
  have hsub : ∀ u ∈ (List.range k).map (fun i => cf (K i)), u ∈ (List.range (k + 1)).map (fun i => cf (insF a v' K i)) := fun u hu => by
    obtain ⟨i, hi, rfl⟩ := List.mem_map.1 hu
    have hi := List.mem_range.1 hi
    by_cases e : i < a
    · exact List.mem_map.2 ⟨i, List.mem_range.2 (by omega), by rw [insF_lt e]⟩
    · exact List.mem_map.2 ⟨i + 1, List.mem_range.2 (by omega), by rw [insF_gt (by omega), Nat.add_sub_cancel]⟩
  have hvm : cf v' ∈ (List.range (k + 1)).map (fun i => cf (insF a v' K i)) := List.mem_map.2 ⟨a, List.mem_range.2 (by omega), by rw [insF_at]⟩
  refine ⟨fun i hi => ?_, fun i j hij hj => ?_, fun i hi => ?_, fun j hj => ?_, fun j hj => ?_⟩
  · rcases insF_cases v' K ha hi with ⟨e1, e2⟩ | ⟨q, hq, e1, e2⟩
    · subst e2
      rw [insF_at, insF_at]
      exact ⟨hv, ho, hol, hv0⟩
    · have e3 : insF a o' T i = T q := by
        rcases e2 with ⟨h1, rfl⟩ | ⟨h1, rfl⟩
        · exact insF_lt h1
        · rw [insF_gt h1, Nat.add_sub_cancel]
      rw [e1, e3]
      have := h.po q hq
      exact ⟨this.1, this.2.1, by omega, this.2.2.2⟩
  · rcases insF_cases v' K ha (show i < k + 1 by omega) with ⟨e1, e2⟩ | ⟨q, hq, e1, e2⟩
    · rcases insF_cases v' K ha hj with ⟨f1, f2⟩ | ⟨r, hr2, f1, f2⟩
      · omega
      · rw [e1, f1]; exact hza r (by omega) hr2
    · rcases insF_cases v' K ha hj with ⟨f1, f2⟩ | ⟨r, hr2, f1, f2⟩
      · rw [e1, f1]; exact hz q hq
      · rw [e1, f1]; exact h.tri q r (by omega) hr2
  · rcases insF_cases v' K ha hi with ⟨e1, e2⟩ | ⟨q, hq, e1, e2⟩
    · subst e2
      rw [insF_at, insF_at]; exact hl
    · have e3 : insF a o' T i = T q := by
        rcases e2 with ⟨h1, rfl⟩ | ⟨h1, rfl⟩
        · exact insF_lt h1
        · rw [insF_gt h1, Nat.add_sub_cancel]
      rw [e1, e3, lin_ge (cf_Fin0 (T q)) (show (T q).length ≤ k + 1 by have := (h.po q hq).2.2.1; omega)]
      have := h.lin q hq
      rwa [lin_ge (cf_Fin0 (T q)) (h.po q hq).2.2.1] at this
  · by_cases e : j = k
    · subst e
      have h1 := ((Sp.mem (p := p) hvm).smul d).add ((hr.sp.mono hsub).smul (-1))
      refine h1.congr ?_
      refine Eqp.trans ?_ (Eqp.add hd (Eqp.refl _))
      refine Eqp.of_eq ?_
      funext n
      show cf (x j) n = cf v n + -1 * (cf v n + -1 * cf (x j) n)
      omega
    · exact (h.all j (by omega)).mono hsub
  · by_cases e : j = k
    · subst e; exact h.no hp hr hn
    · exact h.none j (by omega)
/-- There is a least relation. -/
theorem least_rel {p : Int} (hp : Pr p) {x : Nat → List Int} {N : Nat} (hx : ∀ j, Po p (x j)) (hN : ∀ j, (x j).length ≤ N) : ∃ k c, k ≤ N ∧ Rel p (fun j => cf (x j)) k c ∧ ∀ j, j < k → ¬ ∃ e, Rel p (fun j => cf (x j)) j e := by
  have hp2 := hp.pos
  refine Classical.byContradiction fun hno => ?_
  have hall : ∀ k, k ≤ N + 1 → ∃ K T, Stage p x (fun a => a.length - 1) k K T ∧ ∀ i, i < k → 0 < (K i).length ∧ (K i).length ≤ N := by
    intro k
    induction k with
    | zero => exact fun _ => ⟨fun _ => [], fun _ => [], Stage.zero _ _ _ _ _, fun i h => absurd h (by omega)⟩
    | succ k ih =>
      intro hk
      obtain ⟨K, T, hS, hl⟩ := ih (by omega)
      have hr := hS.red hp (hx k) k (Nat.le_refl k)
      have hlen : ∀ i, i ≤ k → (redN p (fun a => a.length - 1) K T (x k) (onek k) i).1.length ≤ N := by
        intro i
        induction i with
        | zero => exact fun _ => hN k
        | succ i ih2 =>
          intro hi
          exact Nat.le_trans (addp_length p _ _ _) (Nat.max_le.2 ⟨ih2 (by omega), (hl i (by omega)).2⟩)
      have hle := hlen k (Nat.le_refl k)
      generalize (redN p (fun a => a.length - 1) K T (x k) (onek k) k).1 = v at *
      generalize (redN p (fun a => a.length - 1) K T (x k) (onek k) k).2 = o at *
      by_cases hv : v = []
      · exact absurd ⟨k, o, by omega, hr.done hv, hS.none⟩ hno
      · have hvp := List.length_pos_iff.2 hv
        refine ⟨_, _, hS.next hp hr hv v o 1 hr.pv hr.po (Nat.le_of_eq hr.len) (by have := hr.pv.lead hv; show cf v (v.length - 1) ≠ 0; omega) (Eqp.of_eq (by funext n; exact (Int.one_mul _).symm)) hr.lin hr.zero k (Nat.le_refl k) (fun i h1 h2 => absurd h1 (by omega)), fun i hi => ?_⟩
        rcases insF_cases v K (Nat.le_refl k) hi with ⟨e1, _⟩ | ⟨q, hq, e1, _⟩
        · rw [e1]; exact ⟨hvp, hle⟩
        · rw [e1]; exact hl q hq
  obtain ⟨K, T, hS, hl⟩ := hall (N + 1) (Nat.le_refl _)
  have := hS.le (N := N) fun i hi => by have := hl i hi; show (K i).length - 1 < N; omega
  omega
end Go.Proofs.Ytnkkkgaojhkniab

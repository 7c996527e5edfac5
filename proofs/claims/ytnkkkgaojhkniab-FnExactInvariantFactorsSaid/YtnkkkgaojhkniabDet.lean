/- Determinants of sequences over lists of rows and of columns. No program in sight. -/
import Derived.Test.YtnkkkgaojhkniabPure
set_option linter.unusedVariables false
set_option linter.unusedSimpArgs false
namespace Go.Proofs.Ytnkkkgaojhkniab

/-- A difference. -/
def psb (f g : PS) : PS := padd f (psmul (-1) g)
/-- The members of a list one after the other, each with the rest of the list, with changing signs. -/
def alt (f : Nat → List Nat → PS) : List Nat → PS
  | [] => pzero
  | c :: C => psb (f c C) (alt (fun x X => f x (c :: X)) C)
theorem alt_congr : ∀ (C : List Nat) (f g : Nat → List Nat → PS), (∀ c X, X.length + 1 = C.length → c ∈ C → (∀ x ∈ X, x ∈ C) → f c X = g c X) → alt f C = alt g C
  | [], _, _, _ => rfl
  | c :: C, f, g, h => by
    show psb _ _ = psb _ _
    rw [h c C rfl (by simp) (fun x hx => by simp [hx]), alt_congr C _ _ fun x X hl hx hX => h x (c :: X) (by simp; omega) (by simp [hx]) (fun y hy => by
      rcases List.mem_cons.1 hy with rfl | hy
      · simp
      · simp [hX y hy])]
theorem alt_same {f g : Nat → List Nat → PS} (h : ∀ c X, f c X = g c X) (C : List Nat) : alt f C = alt g C := alt_congr C f g fun c X _ _ _ => h c X
theorem psb_self (f : PS) : psb f f = pzero := by funext n; show f n + -1 * f n = 0; omega
theorem psb_zero (f : PS) : psb f pzero = f := by funext n; show f n + -1 * 0 = f n; omega
theorem alt_zero : ∀ (C : List Nat), alt (fun _ _ => pzero) C = pzero
  | [] => rfl
  | _ :: C => by show psb pzero (alt (fun _ _ => pzero) C) = pzero; rw [alt_zero C, psb_self]
theorem alt_sub : ∀ (C : List Nat) (f g : Nat → List Nat → PS), alt (fun c X => psb (f c X) (g c X)) C = psb (alt f C) (alt g C)
  | [], _, _ => (psb_self _).symm
  | c :: C, f, g => by
    show psb (psb _ _) (alt (fun x X => psb (f x (c :: X)) (g x (c :: X))) C) = psb (psb _ _) (psb _ _)
    rw [alt_sub C]
    funext n; show _ + -1 * _ + -1 * (_ + -1 * _) = _ + -1 * _ + -1 * (_ + -1 * _); omega
theorem alt_add : ∀ (C : List Nat) (f g : Nat → List Nat → PS), alt (fun c X => padd (f c X) (g c X)) C = padd (alt f C) (alt g C)
  | [], _, _ => (padd_pzero _).symm
  | c :: C, f, g => by
    show psb (padd _ _) (alt (fun x X => padd (f x (c :: X)) (g x (c :: X))) C) = padd (psb _ _) (psb _ _)
    rw [alt_add C]
    funext n; show _ + _ + -1 * (_ + _) = _ + -1 * _ + (_ + -1 * _); omega
theorem pmul_psb (k f g : PS) : pmul k (psb f g) = psb (pmul k f) (pmul k g) := by unfold psb; rw [pmul_add, pmul_psmul]
theorem alt_mul (k : PS) : ∀ (C : List Nat) (f : Nat → List Nat → PS), alt (fun c X => pmul k (f c X)) C = pmul k (alt f C)
  | [], _ => (pmul_pzero k).symm
  | c :: C, f => by
    show psb (pmul _ _) (alt (fun x X => pmul k (f x (c :: X))) C) = pmul k (psb _ _)
    rw [alt_mul k C, pmul_psb]
theorem alt_smul (k : Int) : ∀ (C : List Nat) (f : Nat → List Nat → PS), alt (fun c X => psmul k (f c X)) C = psmul k (alt f C)
  | [], _ => (psmul_pzero k).symm
  | c :: C, f => by
    show psb (psmul _ _) (alt (fun x X => psmul k (f x (c :: X))) C) = psmul k (psb _ _)
    rw [alt_smul k C]
    unfold psb
    rw [psmul_padd, psmul_psmul, psmul_psmul, Int.mul_comm]
theorem alt_comm : ∀ (C D : List Nat) (F : Nat → List Nat → Nat → List Nat → PS), alt (fun x X => alt (fun y Y => F x X y Y) D) C = alt (fun y Y => alt (fun x X => F x X y Y) C) D
  | [], D, _ => (alt_zero D).symm
  | c :: C, D, F => by
    show psb (alt (fun y Y => F c C y Y) D) (alt (fun x X => alt (fun y Y => F x (c :: X) y Y) D) C) = alt (fun y Y => psb (F c C y Y) (alt (fun x X => F x (c :: X) y Y) C)) D
    rw [alt_comm C D fun x X y Y => F x (c :: X) y Y, alt_sub]
/-- Two members taken, in a way that does not depend on their order. -/
theorem alt_twice : ∀ (C : List Nat) (F : Nat → Nat → List Nat → PS), (∀ x y X, F x y X = F y x X) → alt (fun x X => alt (fun y Y => F x y Y) X) C = pzero
  | [], _, _ => rfl
  | c :: C, F, h => by
    show psb (alt (fun y Y => F c y Y) C) (alt (fun x X => psb (F x c X) (alt (fun y Y => F x y (c :: Y)) X)) C) = pzero
    rw [alt_sub, alt_twice C (fun x y Y => F x y (c :: Y)) fun x y X => h x y _, psb_zero, alt_same (f := fun y Y => F c y Y) (g := fun x X => F x c X) fun x X => h c x X, psb_self]

/-- The determinant of a list of rows over a list of columns. -/
def detR : List (Nat → PS) → List Nat → PS
  | [], _ => pone
  | r :: L, C => alt (fun c X => pmul (r c) (detR L X)) C
def det (a : Nat → Nat → PS) (R C : List Nat) : PS := detR (R.map a) C
theorem det_cons (a : Nat → Nat → PS) (r : Nat) (R C : List Nat) : det a (r :: R) C = alt (fun c X => pmul (a r c) (det a R X)) C := rfl
theorem det_nil (a : Nat → Nat → PS) (C : List Nat) : det a [] C = pone := rfl
/-- Rows and columns exchanged. -/
theorem det_flip (a : Nat → Nat → PS) : ∀ (n : Nat) (R C : List Nat), R.length = n → C.length = n → det a R C = det (fun i j => a j i) C R := by
  intro n
  induction n using Nat.strongRecOn with
  | _ n ih =>
    intro R C hR hC
    cases R with
    | nil => cases C with
      | nil => rfl
      | cons c C => simp at hR hC; omega
    | cons r R => cases C with
      | nil => simp at hR hC; omega
      | cons c C =>
        simp only [List.length_cons] at hR hC
        have e1 : alt (fun x X => pmul (a r x) (det a R (c :: X))) C = alt (fun x X => alt (fun y Y => pmul (a r x) (pmul (a y c) (det (fun i j => a j i) X Y))) R) C := by
          refine alt_congr C _ _ fun x X hX _ _ => ?_
          rw [ih (n - 1) (by omega) R (c :: X) (by omega) (by simp; omega), det_cons, alt_mul]
        have e2 : alt (fun y Y => pmul (a y c) (det (fun i j => a j i) C (r :: Y))) R = alt (fun y Y => alt (fun x X => pmul (a r x) (pmul (a y c) (det (fun i j => a j i) X Y))) C) R := by
          refine alt_congr R _ _ fun y Y hY _ _ => ?_
          rw [← ih (n - 1) (by omega) (r :: Y) C (by simp; omega) (by omega), det_cons, ← alt_mul]
          refine alt_congr C _ _ fun x X hX _ _ => ?_
          rw [ih (n - 2) (by omega) Y X (by omega) (by omega), pmul_left_comm]
        show psb (pmul (a r c) (det a R C)) (alt (fun x X => pmul (a r x) (det a R (c :: X))) C) = psb (pmul (a r c) (det (fun i j => a j i) C R)) (alt (fun y Y => pmul (a y c) (det (fun i j => a j i) C (r :: Y))) R)
        rw [e1, e2, ih (n - 1) (by omega) R C (by omega) (by omega), alt_comm]
/-- The first column apart. -/
theorem det_first (a : Nat → Nat → PS) (r c : Nat) (R C : List Nat) (h : R.length = C.length) :
    det a (r :: R) (c :: C) = psb (pmul (a r c) (det a R C)) (alt (fun y Y => pmul (a y c) (det a (r :: Y) C)) R) := by
  rw [det_flip a (R.length + 1) (r :: R) (c :: C) (by simp) (by simp [h])]
  show psb (pmul (a r c) (det (fun i j => a j i) C R)) (alt (fun y Y => pmul (a y c) (det (fun i j => a j i) C (r :: Y))) R) = _
  rw [← det_flip a R.length R C rfl h.symm]
  congr 1
  refine alt_congr R _ _ fun y Y hY _ _ => ?_
  rw [← det_flip a R.length (r :: Y) C (by simp; omega) h.symm]
theorem detR_twice (r : Nat → PS) (L : List (Nat → PS)) (C : List Nat) : detR (r :: r :: L) C = pzero := by
  show alt (fun x X => pmul (r x) (alt (fun y Y => pmul (r y) (detR L Y)) X)) C = pzero
  rw [← alt_twice C (fun x y Y => pmul (r x) (pmul (r y) (detR L Y))) fun x y X => pmul_left_comm _ _ _]
  exact alt_same (fun x X => (alt_mul _ X _).symm) C
theorem detR_add (r s : Nat → PS) (L2 : List (Nat → PS)) : ∀ (L1 : List (Nat → PS)) (C : List Nat), detR (L1 ++ (fun c => padd (r c) (s c)) :: L2) C = padd (detR (L1 ++ r :: L2) C) (detR (L1 ++ s :: L2) C)
  | [], C => by
    show alt (fun x X => pmul (padd (r x) (s x)) (detR L2 X)) C = padd (alt _ C) (alt _ C)
    rw [← alt_add]
    exact alt_same (fun x X => padd_mul _ _ _) C
  | t :: L1, C => by
    show alt (fun x X => pmul (t x) (detR (L1 ++ _ :: L2) X)) C = padd (alt _ C) (alt _ C)
    rw [← alt_add]
    exact alt_same (fun x X => by rw [detR_add r s L2 L1 X, pmul_add]; rfl) C
theorem detR_mul (k : PS) (r : Nat → PS) (L2 : List (Nat → PS)) : ∀ (L1 : List (Nat → PS)) (C : List Nat), detR (L1 ++ (fun c => pmul k (r c)) :: L2) C = pmul k (detR (L1 ++ r :: L2) C)
  | [], C => by
    show alt (fun x X => pmul (pmul k (r x)) (detR L2 X)) C = pmul k (alt _ C)
    rw [← alt_mul]
    exact alt_same (fun x X => pmul_assoc _ _ _) C
  | t :: L1, C => by
    show alt (fun x X => pmul (t x) (detR (L1 ++ _ :: L2) X)) C = pmul k (alt _ C)
    rw [← alt_mul]
    exact alt_same (fun x X => by rw [detR_mul k r L2 L1 X, pmul_left_comm]; rfl) C
theorem detR_zero (L2 : List (Nat → PS)) : ∀ (L1 : List (Nat → PS)) (C : List Nat), detR (L1 ++ (fun _ => pzero) :: L2) C = pzero
  | [], C => by
    show alt (fun x X => pmul pzero (detR L2 X)) C = pzero
    rw [alt_same (g := fun _ _ => pzero) (fun x X => pzero_mul _) C, alt_zero]
  | t :: L1, C => by
    show alt (fun x X => pmul (t x) (detR (L1 ++ _ :: L2) X)) C = pzero
    rw [alt_same (g := fun _ _ => pzero) (fun x X => by rw [detR_zero L2 L1 X, pmul_pzero]) C, alt_zero]
/-- Two rows next to one another exchanged. -/
theorem detR_swap (r s : Nat → PS) (L2 : List (Nat → PS)) (C : List Nat) : detR (r :: s :: L2) C = psmul (-1) (detR (s :: r :: L2) C) := by
  have h := detR_twice (fun c => padd (r c) (s c)) L2 C
  have e1 := detR_add r s ((fun c => padd (r c) (s c)) :: L2) [] C
  have e2 := detR_add r s L2 [r] C
  have e3 := detR_add r s L2 [s] C
  have e4 := detR_twice r L2 C
  have e5 := detR_twice s L2 C
  simp only [List.nil_append, List.cons_append] at e1 e2 e3
  rw [h, e2, e3, e4, e5] at e1
  funext n
  have := congrFun e1 n
  show detR (r :: s :: L2) C n = -1 * detR (s :: r :: L2) C n
  have e6 : pzero n = pzero n + detR (r :: s :: L2) C n + (detR (s :: r :: L2) C n + pzero n) := this
  have : pzero n = 0 := rfl
  omega
theorem detR_again (r : Nat → PS) (L2 : List (Nat → PS)) : ∀ (L1 : List (Nat → PS)) (C : List Nat), detR (r :: (L1 ++ r :: L2)) C = pzero
  | [], C => detR_twice r L2 C
  | t :: L1, C => by
    show detR (r :: t :: (L1 ++ r :: L2)) C = pzero
    rw [detR_swap]
    show psmul (-1) (alt (fun x X => pmul (t x) (detR (r :: (L1 ++ r :: L2)) X)) C) = pzero
    rw [alt_same (g := fun _ _ => pzero) (fun x X => by rw [detR_again r L2 L1 X, pmul_pzero]) C, alt_zero, psmul_pzero]
/-- A row that stands there already. -/
theorem detR_rep (r : Nat → PS) (L2 : List (Nat → PS)) : ∀ (L1 : List (Nat → PS)) (C : List Nat), r ∈ L1 → detR (L1 ++ r :: L2) C = pzero
  | [], _, h => absurd h (by simp)
  | t :: L1, C, h => by
    rcases List.mem_cons.1 h with rfl | h
    · exact detR_again _ L2 L1 C
    · show alt (fun x X => pmul (t x) (detR (L1 ++ r :: L2) X)) C = pzero
      rw [alt_same (g := fun _ _ => pzero) (fun x X => by rw [detR_rep r L2 L1 X h, pmul_pzero]) C, alt_zero]
/-- Another order of the rows changes no more than the sign. -/
theorem detR_perm {L L' : List (Nat → PS)} (h : L.Perm L') : ∃ s : Int, (s = 1 ∨ s = -1) ∧ ∀ C, detR L C = psmul s (detR L' C) := by
  induction h with
  | nil => exact ⟨1, .inl rfl, fun C => (psmul_one _).symm⟩
  | cons x _ ih =>
    obtain ⟨s, hs, e⟩ := ih
    refine ⟨s, hs, fun C => ?_⟩
    show alt _ C = psmul s (alt _ C)
    rw [← alt_smul]
    exact alt_same (fun c X => by rw [e, pmul_psmul]) C
  | swap x y L => exact ⟨-1, .inr rfl, fun C => detR_swap _ _ _ _⟩
  | trans _ _ ih1 ih2 =>
    obtain ⟨s, hs, e⟩ := ih1
    obtain ⟨t, ht, e2⟩ := ih2
    refine ⟨s * t, ?_, fun C => by rw [e, e2, psmul_psmul]⟩
    rcases hs with rfl | rfl <;> rcases ht with rfl | rfl <;> decide
theorem det_perm (a : Nat → Nat → PS) {R R' : List Nat} (h : R.Perm R') : ∃ s : Int, (s = 1 ∨ s = -1) ∧ ∀ C, det a R C = psmul s (det a R' C) := detR_perm (h.map a)
theorem det_dup (a : Nat → Nat → PS) {R : List Nat} (h : ¬ R.Nodup) (C : List Nat) : det a R C = pzero := by
  have : ∃ x L1 L2, R = L1 ++ x :: L2 ∧ x ∈ L1 := by
    clear C
    induction R with
    | nil => exact absurd List.nodup_nil h
    | cons x R ih =>
      by_cases hx : x ∈ R
      · obtain ⟨A, B, e⟩ := List.append_of_mem hx
        exact ⟨x, x :: A, B, by rw [e]; rfl, by simp⟩
      · obtain ⟨y, A, B, e, hm⟩ := ih fun hn => h (List.nodup_cons.2 ⟨hx, hn⟩)
        exact ⟨y, x :: A, B, by rw [e]; rfl, by simp [hm]⟩
  obtain ⟨x, L1, L2, rfl, hm⟩ := this
  unfold det
  rw [List.map_append, List.map_cons]
  exact detR_rep _ _ _ _ (List.mem_map.2 ⟨x, hm, rfl⟩)
/-- Multiples of a row that stands there taken from others. -/
theorem detR_less (r : Nat → PS) (a b : Nat → Nat → PS) (q : Nat → PS) : ∀ (R : List Nat), (∀ i ∈ R, b i = fun c => padd (a i c) (pmul (q i) (r c))) →
    ∀ (L0 : List (Nat → PS)) (C : List Nat), r ∈ L0 → detR (L0 ++ R.map b) C = detR (L0 ++ R.map a) C
  | [], _, _, _, _ => rfl
  | i :: R, h, L0, C, hm => by
    show detR (L0 ++ b i :: R.map b) C = detR (L0 ++ a i :: R.map a) C
    rw [h i (by simp), detR_add, detR_mul, detR_rep r _ _ _ hm, pmul_pzero, padd_pzero]
    have := detR_less r a b q R (fun j hj => h j (by simp [hj])) (L0 ++ [a i]) C (by simp [hm])
    simpa using this
/-- What holds of all determinants of rows, closed under sums and under some multiples, holds of those of rows put together of them. -/
theorem det_close {Q K : PS → Prop} (hadd : ∀ f g, Q f → Q g → Q (padd f g)) (hz : Q pzero) (hmul : ∀ q f, K q → Q f → Q (pmul q f)) (S : Nat → Prop) (a b : Nat → Nat → PS)
    (hb : ∀ i, S i → ∃ l : List (PS × Nat), (∀ x ∈ l, K x.1 ∧ S x.2) ∧ b i = l.foldr (fun x f => fun c => padd (pmul x.1 (a x.2 c)) (f c)) (fun _ => pzero)) (C : List Nat) :
    ∀ (R1 : List Nat), (∀ i ∈ R1, S i) → ∀ (R0 : List Nat), (∀ i ∈ R0, S i) → (∀ R : List Nat, (∀ i ∈ R, S i) → R.length = R0.length + R1.length → Q (det a R C)) → Q (detR (R0.map a ++ R1.map b) C)
  | [], _, R0, h0, h => by
    rw [List.map_nil, List.append_nil]
    exact h R0 h0 (by simp)
  | i :: R1, h1, R0, h0, h => by
    obtain ⟨l, hl, e⟩ := hb i (h1 i (by simp))
    show Q (detR (R0.map a ++ b i :: R1.map b) C)
    rw [e]
    clear e
    induction l with
    | nil => rw [List.foldr_nil, detR_zero]; exact hz
    | cons x l ih =>
      rw [List.foldr_cons, detR_add, detR_mul]
      refine hadd _ _ (hmul _ _ (hl x (by simp)).1 ?_) (ih fun y hy => hl y (by simp [hy]))
      have := det_close hadd hz hmul S a b hb C R1 (fun j hj => h1 j (by simp [hj])) (R0 ++ [x.2]) (fun j hj => by
        rcases List.mem_append.1 hj with hj | hj
        · exact h0 j hj
        · rw [List.mem_singleton.1 hj]; exact (hl x (by simp)).2) fun R hR hlen => h R hR (by simp at hlen ⊢; omega)
      simpa using this
theorem alt_eqp {p : Int} : ∀ (C : List Nat) (f g : Nat → List Nat → PS), (∀ c X, X.length + 1 = C.length → c ∈ C → (∀ x ∈ X, x ∈ C) → Eqp p (f c X) (g c X)) → Eqp p (alt f C) (alt g C)
  | [], _, _, _ => Eqp.refl _
  | c :: C, f, g, h => by
    show Eqp p (padd _ (psmul _ _)) (padd _ (psmul _ _))
    refine Eqp.add (h c C rfl (by simp) (fun x hx => by simp [hx])) (Eqp.smul (alt_eqp C _ _ fun x X hl hx hX => h x (c :: X) (by simp; omega) (by simp [hx]) (fun y hy => by
      rcases List.mem_cons.1 hy with rfl | hy
      · simp
      · simp [hX y hy])))
theorem det_eqp {p : Int} {a b : Nat → Nat → PS} : ∀ (R C : List Nat), (∀ i ∈ R, ∀ c ∈ C, Eqp p (a i c) (b i c)) → Eqp p (det a R C) (det b R C)
  | [], _, _ => Eqp.refl _
  | i :: R, C, h => by
    rw [det_cons, det_cons]
    exact alt_eqp C _ _ fun c X _ hc hX => Eqp.mul (h i (by simp) c hc) (det_eqp R X fun j hj x hx => h j (by simp [hj]) x (hX x hx))
/-- What holds of all terms, closed under differences. -/
theorem alt_close {Q : PS → Prop} (hsub : ∀ f g, Q f → Q g → Q (psb f g)) (hz : Q pzero) : ∀ (C : List Nat) (f : Nat → List Nat → PS), (∀ c X, X.length + 1 = C.length → c ∈ C → (∀ x ∈ X, x ∈ C) → Q (f c X)) → Q (alt f C)
  | [], _, _ => hz
  | c :: C, f, h => hsub _ _ (h c C rfl (by simp) (fun x hx => by simp [hx])) (alt_close hsub hz C _ fun x X hl hx hX => h x (c :: X) (by simp; omega) (by simp [hx]) (fun y hy => by
      rcases List.mem_cons.1 hy with rfl | hy
      · simp
      · simp [hX y hy]))
end Go.Proofs.Ytnkkkgaojhkniab

/- Determinants of parts of a matrix: how long they are, what divides them. No program in sight. -/
import Derived.Test.YtnkkkgaojhkniabDet
set_option linter.unusedVariables false
set_option linter.unusedSimpArgs false
namespace Go.Proofs.Ytnkkkgaojhkniab

/-- No more than N coefficients modulo p. -/
def Ln (p : Int) (N : Nat) (f : PS) : Prop := ∀ i, N ≤ i → f i % p = 0
theorem Ln.le {p : Int} {N M : Nat} {f : PS} (h : Ln p N f) (hl : N ≤ M) : Ln p M f := fun i hi => h i (by omega)
theorem Ln.eqp {p : Int} {N : Nat} {f g : PS} (h : Ln p N f) (e : Eqp p g f) : Ln p N g := fun i hi => (e i).trans (h i hi)
theorem Ln.add {p : Int} {N : Nat} {f g : PS} (h : Ln p N f) (k : Ln p N g) : Ln p N (padd f g) := fun i hi => by
  have := emod_add_congr (p := p) ((h i hi).trans (Int.zero_emod p).symm) ((k i hi).trans (Int.zero_emod p).symm)
  show (f i + g i) % p = 0
  rw [this]; exact Int.zero_emod p
theorem Ln.smul {p : Int} {N : Nat} {f : PS} (c : Int) (h : Ln p N f) : Ln p N (psmul c f) := fun i hi => by
  show c * f i % p = 0
  rw [Int.mul_emod, h i hi]; simp
theorem Ln.psb {p : Int} {N : Nat} {f g : PS} (h : Ln p N f) (k : Ln p N g) : Ln p N (psb f g) := h.add (k.smul (-1))
theorem Ln.zero (p : Int) (N : Nat) : Ln p N pzero := fun _ _ => Int.zero_emod p
theorem Ln.of_list (p : Int) (a : List Int) : Ln p a.length (cf a) := fun i hi => by rw [cf_ge a i hi]; exact Int.zero_emod p
theorem Ln.of_fin {p : Int} {N : Nat} {f : PS} (h : Fin0 f N) : Ln p N f := fun i hi => by rw [h i hi]; exact Int.zero_emod p
theorem Po.eq0 {p : Int} {a : List Int} (h : Po p a) {i : Nat} (hn : cf a i % p = 0) : cf a i = 0 := by
  rwa [Int.emod_eq_of_lt (h.md i).1 (h.md i).2] at hn
theorem Ln.len {p : Int} {a : List Int} (ha : Po p a) {N : Nat} (h : Ln p N (cf a)) : a.length ≤ N := Tr_length_le ha.tr fun i hi => ha.eq0 (h i hi)
theorem sumN_zero_mod {p : Int} {n : Nat} {f : Nat → Int} (h : ∀ i, i < n → f i % p = 0) : sumN n f % p = 0 := by
  rw [sumN_emod (g := fun _ => 0) fun i hi => (h i hi).trans (Int.zero_emod p).symm, sumN_zero]; exact Int.zero_emod p
theorem sumN_one_mod {p : Int} {n k : Nat} {f : Nat → Int} (hk : k < n) (h : ∀ i, i < n → i ≠ k → f i % p = 0) : sumN n f % p = f k % p := by
  induction n with
  | zero => omega
  | succ n ih =>
    show (sumN n f + f n) % p = _
    by_cases e : k = n
    · subst e
      rw [Int.add_emod, sumN_zero_mod fun i hi => h i (by omega) (by omega), Int.zero_add, Int.emod_emod_of_dvd _ (Int.dvd_refl p)]
    · rw [Int.add_emod, ih (by omega) fun i hi => h i (by omega), h n (by omega) (by omega), Int.add_zero, Int.emod_emod_of_dvd _ (Int.dvd_refl p)]
theorem emod_mul_zero_left {p x y : Int} (h : x % p = 0) : x * y % p = 0 := by rw [Int.mul_emod, h]; simp
theorem emod_mul_zero_right {p x y : Int} (h : y % p = 0) : x * y % p = 0 := by rw [Int.mul_emod, h]; simp
theorem Ln.mul {p : Int} {N M K : Nat} {f g : PS} (h : Ln p N f) (k : Ln p M g) (hl : N + M ≤ K + 1) : Ln p K (pmul f g) := fun i hi =>
  sumN_zero_mod fun j hj => by
    by_cases e : N ≤ j
    · exact emod_mul_zero_left (h j e)
    · exact emod_mul_zero_right (k (i - j) (by omega))
/-- The factor of a product of a known length. -/
theorem Ln.top {p : Int} (hp : Pr p) {d L N : Nat} {f g : PS} (hf : Ln p (d + 1) f) (hd : f d % p ≠ 0) (hg : Ln p N g) (h : Ln p (d + L) (pmul f g)) : Ln p L g := by
  have key : ∀ t, Ln p (L + t) g → Ln p L g := by
    intro t
    induction t with
    | zero => exact fun h => h
    | succ t ih =>
      intro hk
      refine ih fun i hi => ?_
      by_cases e : i = L + t
      · subst e
        have h1 := h (d + (L + t)) (by omega)
        have h2 : pmul f g (d + (L + t)) % p = f d * g (d + (L + t) - d) % p := sumN_one_mod (by omega) fun j hj hne => by
          by_cases e2 : d + 1 ≤ j
          · exact emod_mul_zero_left (hf j e2)
          · exact emod_mul_zero_right (hk _ (by omega))
        rw [h2, show d + (L + t) - d = L + t by omega, Int.mul_comm] at h1
        exact emod_zero_mul hp h1 hd
      · exact hk i (by omega)
  by_cases e : N ≤ L
  · exact hg.le e
  · exact key (N - L) (by rwa [show L + (N - L) = N by omega])

/-- A row is put together of the rows of a matrix. -/
def lcomb (a : Nat → Nat → PS) (l : List (PS × Nat)) : Nat → PS := l.foldr (fun x f => fun c => padd (pmul x.1 (a x.2 c)) (f c)) (fun _ => pzero)
def RowsOf (p : Int) (S : Nat → Prop) (K : PS → Prop) (a b : Nat → Nat → PS) : Prop :=
  ∀ i, S i → ∃ l : List (PS × Nat), (∀ x ∈ l, K x.1 ∧ S x.2) ∧ ∀ c, S c → Eqp p (b i c) (lcomb a l c)
def AllMin (Q : PS → Prop) (S : Nat → Prop) (a : Nat → Nat → PS) : Prop := ∀ R C : List Nat, (∀ i ∈ R, S i) → (∀ c ∈ C, S c) → R.length = C.length → Q (det a R C)
def AllMinK (Q : PS → Prop) (S : Nat → Prop) (k : Nat) (a : Nat → Nat → PS) : Prop := ∀ R C : List Nat, (∀ i ∈ R, S i) → (∀ c ∈ C, S c) → R.length = k → C.length = k → Q (det a R C)
theorem AllMin.K {Q : PS → Prop} {S : Nat → Prop} {a : Nat → Nat → PS} (h : AllMin Q S a) (k : Nat) : AllMinK Q S k a := fun R C hR hC h1 h2 => h R C hR hC (h1.trans h2.symm)
theorem AllMin.of {Q : PS → Prop} {S : Nat → Prop} {a : Nat → Nat → PS} (h : ∀ k, AllMinK Q S k a) : AllMin Q S a := fun R C hR hC hl => h R.length R C hR hC rfl hl.symm
theorem AllMinK.flip {Q : PS → Prop} {S : Nat → Prop} {k : Nat} {a : Nat → Nat → PS} (h : AllMinK Q S k a) : AllMinK Q S k (fun i j => a j i) := fun R C hR hC h1 h2 => by
  rw [← det_flip a k C R h2 h1]; exact h C R hC hR h2 h1
theorem AllMin.flip {Q : PS → Prop} {S : Nat → Prop} {a : Nat → Nat → PS} (h : AllMin Q S a) : AllMin Q S (fun i j => a j i) := AllMin.of fun k => (h.K k).flip
theorem AllMinK.rows {Q K : PS → Prop} (hadd : ∀ f g, Q f → Q g → Q (padd f g)) (hz : Q pzero) (hmul : ∀ q f, K q → Q f → Q (pmul q f)) {p : Int} (heq : ∀ f g, Q f → Eqp p g f → Q g) {S : Nat → Prop} {k : Nat} {a b : Nat → Nat → PS}
    (hb : RowsOf p S K a b) (h : AllMinK Q S k a) : AllMinK Q S k b := fun R C hR hC h1 h2 => by
  have hch : ∀ i, ∃ l : List (PS × Nat), S i → (∀ x ∈ l, K x.1 ∧ S x.2) ∧ ∀ c, S c → Eqp p (b i c) (lcomb a l c) := fun i => by
    by_cases hs : S i
    · obtain ⟨l, hl⟩ := hb i hs; exact ⟨l, fun _ => hl⟩
    · exact ⟨[], fun h => absurd h hs⟩
  obtain ⟨f, hf⟩ := Classical.axiomOfChoice hch
  have := det_close hadd hz hmul S a (fun i => lcomb a (f i)) (fun i hi => ⟨f i, (hf i hi).1, rfl⟩) C R hR [] (by simp) fun R' hR' hlen => h R' C hR' hC (by simpa [h1] using hlen) h2
  refine heq _ _ this ?_
  exact det_eqp R C fun i hi c hc => (hf i (hR i hi)).2 c (hC c hc)
theorem AllMinK.eqp {Q : PS → Prop} {p : Int} (heq : ∀ f g, Q f → Eqp p g f → Q g) {S : Nat → Prop} {k : Nat} {a b : Nat → Nat → PS} (hb : ∀ i j, S i → S j → Eqp p (b i j) (a i j)) (h : AllMinK Q S k a) : AllMinK Q S k b :=
  fun R C hR hC h1 h2 => heq _ _ (h R C hR hC h1 h2) (det_eqp R C fun i hi c hc => hb i c (hR i hi) (hC c hc))

/-- The elementary steps. -/
def RowAdd (p : Int) (S : Nat → Prop) (k : Nat) (q : Nat → PS) (a b : Nat → Nat → PS) : Prop := ∀ i j, S i → S j → Eqp p (b i j) (if i = k then a k j else padd (a i j) (pmul (q i) (a k j)))
def swp (k i x : Nat) : Nat := if x = k then i else if x = i then k else x
def RowSwap (p : Int) (S : Nat → Prop) (k l : Nat) (a b : Nat → Nat → PS) : Prop := ∀ i j, S i → S j → Eqp p (b i j) (a (swp k l i) j)
theorem swp_S {S : Nat → Prop} {k l i : Nat} (hk : S k) (hl : S l) (hi : S i) : S (swp k l i) := by unfold swp; split <;> (try split) <;> assumption
theorem swp_swp (k l i : Nat) : swp k l (swp k l i) = i := by
  unfold swp
  by_cases h : i = k
  · subst h; rw [if_pos rfl]
    by_cases h2 : l = i
    · subst h2; simp
    · rw [if_neg h2, if_pos rfl]
  · rw [if_neg h]
    by_cases h2 : i = l
    · subst h2; rw [if_pos rfl, if_pos rfl]
    · rw [if_neg h2, if_neg h, if_neg h2]
theorem lcomb_one (a : Nat → Nat → PS) (i c : Nat) : lcomb a [(pone, i)] c = a i c := by
  show padd (pmul pone (a i c)) pzero = a i c
  rw [pone_mul, padd_pzero]
theorem lcomb_two (a : Nat → Nat → PS) (i k c : Nat) (q : PS) : lcomb a [(pone, i), (q, k)] c = padd (a i c) (pmul q (a k c)) := by
  show padd (pmul pone (a i c)) (padd (pmul q (a k c)) pzero) = _
  rw [pone_mul, padd_pzero]
theorem RowAdd.rows {p : Int} {S : Nat → Prop} {K : PS → Prop} {k : Nat} {q : Nat → PS} {a b : Nat → Nat → PS} (h : RowAdd p S k q a b) (hk : S k) (h1 : K pone) (hq : ∀ i, S i → i ≠ k → K (q i)) : RowsOf p S K a b := fun i hi => by
  by_cases e : i = k
  · subst e
    refine ⟨[(pone, i)], fun x hx => ?_, fun c hc => ?_⟩
    · rw [List.mem_singleton.1 hx]; exact ⟨h1, hi⟩
    · rw [lcomb_one]; have := h i c hi hc; rwa [if_pos rfl] at this
  · refine ⟨[(pone, i), (q i, k)], fun x hx => ?_, fun c hc => ?_⟩
    · rcases List.mem_cons.1 hx with rfl | hx
      · exact ⟨h1, hi⟩
      · rw [List.mem_singleton.1 hx]; exact ⟨hq i hi e, hk⟩
    · rw [lcomb_two]; have := h i c hi hc; rwa [if_neg e] at this
theorem RowAdd.symm {p : Int} {S : Nat → Prop} {k : Nat} {q : Nat → PS} {a b : Nat → Nat → PS} (hk : S k) (h : RowAdd p S k q a b) : RowAdd p S k (fun i => psmul (-1) (q i)) b a := fun i j hi hj => by
  have h1 := h i j hi hj
  have h2 := h k j hk hj
  rw [if_pos rfl] at h2
  by_cases e : i = k
  · subst e; rw [if_pos rfl] at h1 ⊢; exact h1.symm
  · rw [if_neg e] at h1 ⊢
    refine Eqp.trans (Eqp.of_eq ?_) (Eqp.add h1.symm (Eqp.mul (Eqp.refl (psmul (-1) (q i))) h2.symm))
    rw [psmul_pmul]
    funext n; show a i j n = a i j n + pmul (q i) (a k j) n + -1 * pmul (q i) (a k j) n; omega
theorem RowSwap.rows {p : Int} {S : Nat → Prop} {K : PS → Prop} {k l : Nat} {a b : Nat → Nat → PS} (h : RowSwap p S k l a b) (hk : S k) (hl : S l) (h1 : K pone) : RowsOf p S K a b := fun i hi =>
  ⟨[(pone, swp k l i)], fun x hx => by rw [List.mem_singleton.1 hx]; exact ⟨h1, swp_S hk hl hi⟩, fun c hc => by rw [lcomb_one]; exact h i c hi hc⟩
theorem RowSwap.symm {p : Int} {S : Nat → Prop} {k l : Nat} {a b : Nat → Nat → PS} (hk : S k) (hl : S l) (h : RowSwap p S k l a b) : RowSwap p S k l b a := fun i j hi hj => by
  have := h (swp k l i) j (swp_S hk hl hi) hj
  rw [swp_swp] at this
  exact this.symm

/-- One elementary step of a matrix of n rows and columns. -/
inductive El (p : Int) (n : Nat) (a b : Nat → Nat → PS) : Prop where
  | rowadd (k : Nat) (q : Nat → PS) (hk : k < n) (hq : ∀ i, i < n → ∃ N, Fin0 (q i) N) (h : RowAdd p (· < n) k q a b)
  | coladd (k : Nat) (q : Nat → PS) (hk : k < n) (hq : ∀ i, i < n → ∃ N, Fin0 (q i) N) (h : RowAdd p (· < n) k q (fun i j => a j i) (fun i j => b j i))
  | rowswap (k l : Nat) (hk : k < n) (hl : l < n) (h : RowSwap p (· < n) k l a b)
  | colswap (k l : Nat) (hk : k < n) (hl : l < n) (h : RowSwap p (· < n) k l (fun i j => a j i) (fun i j => b j i))
theorem El.symm {p : Int} {n : Nat} {a b : Nat → Nat → PS} (h : El p n a b) : El p n b a := by
  cases h with
  | rowadd k q hk hq h => exact .rowadd k _ hk (fun i hi => (hq i hi).imp fun N hN => hN.psmul _) (h.symm hk)
  | coladd k q hk hq h => exact .coladd k _ hk (fun i hi => (hq i hi).imp fun N hN => hN.psmul _) (RowAdd.symm (S := (· < n)) hk h)
  | rowswap k l hk hl h => exact .rowswap k l hk hl (h.symm hk hl)
  | colswap k l hk hl h => exact .colswap k l hk hl (RowSwap.symm (S := (· < n)) hk hl h)
/-- Steps one after the other. -/
inductive Eqv (p : Int) (n : Nat) (a : Nat → Nat → PS) : (Nat → Nat → PS) → Prop where
  | refl : Eqv p n a a
  | step {b c : Nat → Nat → PS} (h : Eqv p n a b) (e : El p n b c) : Eqv p n a c

theorem Dv.congr {p : Int} {d a b : PS} (h : Dv p d a) (e : Eqp p b a) : Dv p d b := by
  obtain ⟨q, N, hq, eq⟩ := h
  exact ⟨q, N, hq, e.trans eq⟩
theorem pone_Fin0 : Fin0 pone 1 := fun i hi => by unfold pone; rw [if_neg (by omega)]
theorem Dv.add {p : Int} {d a b : PS} (ha : Dv p d a) (hb : Dv p d b) : Dv p d (padd a b) := Dv.comb pone_Fin0 ha hb (Eqp.of_eq (by rw [pone_mul]))
theorem Dv.mul {p : Int} {d a q : PS} {N : Nat} (hq : Fin0 q N) (ha : Dv p d a) : Dv p d (pmul q a) := Dv.comb hq ha (Dv.zero d) (Eqp.of_eq (by rw [padd_pzero]))
theorem Dv.trans {p : Int} {d a b : PS} (h : Dv p d a) (k : Dv p a b) : Dv p d b := by
  obtain ⟨q, N, hq, e⟩ := k
  exact (h.mul hq).congr e
theorem Dv.smul {p : Int} {d a : PS} (c : Int) (ha : Dv p d a) : Dv p d (psmul c a) := by
  have := ha.mul (q := psmul c pone) (pone_Fin0.psmul c)
  rwa [psmul_pmul, pone_mul] at this
theorem El.dv {p : Int} {n k : Nat} {d : PS} {a b : Nat → Nat → PS} (h : El p n a b) (ha : AllMinK (Dv p d) (· < n) k a) : AllMinK (Dv p d) (· < n) k b := by
  have key : ∀ {a b : Nat → Nat → PS}, RowsOf p (· < n) (fun q => ∃ N, Fin0 q N) a b → AllMinK (Dv p d) (· < n) k a → AllMinK (Dv p d) (· < n) k b := fun hb ha =>
    ha.rows (K := fun q => ∃ N, Fin0 q N) (fun _ _ => Dv.add) (Dv.zero d) (fun _ _ ⟨_, hN⟩ => Dv.mul hN) (p := p) (fun _ _ h e => h.congr e) hb
  cases h with
  | rowadd r q hk hq h => exact key (h.rows hk ⟨1, pone_Fin0⟩ fun i hi _ => hq i hi) ha
  | coladd r q hk hq h => exact (key (RowAdd.rows (S := (· < n)) h hk ⟨1, pone_Fin0⟩ fun i hi _ => hq i hi) ha.flip).flip
  | rowswap r l hk hl h => exact key (h.rows hk hl ⟨1, pone_Fin0⟩) ha
  | colswap r l hk hl h => exact (key (RowSwap.rows (S := (· < n)) h hk hl ⟨1, pone_Fin0⟩) ha.flip).flip
theorem Eqv.dv {p : Int} {n k : Nat} {d : PS} {a b : Nat → Nat → PS} (h : Eqv p n a b) : AllMinK (Dv p d) (· < n) k a ↔ AllMinK (Dv p d) (· < n) k b := by
  induction h with
  | refl => exact Iff.rfl
  | step _ e ih => exact ⟨fun h => e.dv (ih.1 h), fun h => ih.2 (e.symm.dv h)⟩

/-! ## how long the determinants of the part from a row and column on are -/
def Part (lo n i : Nat) : Prop := lo ≤ i ∧ i < n
def Bnd (p : Int) (N lo n : Nat) (a : Nat → Nat → PS) : Prop := AllMin (Ln p N) (Part lo n) a
theorem Bnd.flip {p : Int} {N lo n : Nat} {a : Nat → Nat → PS} (h : Bnd p N lo n a) : Bnd p N lo n (fun i j => a j i) := AllMin.flip h
theorem Bnd.more {p : Int} {N lo n : Nat} {a : Nat → Nat → PS} (h : Bnd p N lo n a) : Bnd p N (lo + 1) n a := fun R C hR hC => h R C (fun i hi => ⟨Nat.le_of_succ_le (hR i hi).1, (hR i hi).2⟩) (fun i hi => ⟨Nat.le_of_succ_le (hC i hi).1, (hC i hi).2⟩)
theorem det_single (a : Nat → Nat → PS) (i j : Nat) : det a [i] [j] = a i j := by
  show psb (pmul (a i j) pone) pzero = a i j
  rw [psb_zero, pmul_one]
theorem Bnd.entry {p : Int} {N lo n i j : Nat} {a : Nat → Nat → PS} (h : Bnd p N lo n a) (hi : Part lo n i) (hj : Part lo n j) : Ln p N (a i j) := by
  have := h [i] [j] (by simpa using hi) (by simpa using hj) rfl
  rwa [det_single] at this
theorem Bnd.rows {p : Int} {N lo n : Nat} {a b : Nat → Nat → PS} (hb : RowsOf p (Part lo n) (fun q => q = pone) a b) (h : Bnd p N lo n a) : Bnd p N lo n b := AllMin.of fun k =>
  (AllMin.K h k).rows (Q := Ln p N) (K := fun q => q = pone) (fun _ _ => Ln.add) (Ln.zero p N) (fun q f hq hf => by rw [hq, pone_mul]; exact hf) (p := p) (fun _ _ h e => h.eqp e) hb
theorem Bnd.eqp {p : Int} {N lo n : Nat} {a b : Nat → Nat → PS} (hb : ∀ i j, Part lo n i → Part lo n j → Eqp p (b i j) (a i j)) (h : Bnd p N lo n a) : Bnd p N lo n b := AllMin.of fun k =>
  (AllMin.K h k).eqp (p := p) (fun _ _ h e => h.eqp e) hb
theorem det_Ln {p : Int} {M : Nat} {a : Nat → Nat → PS} {S : Nat → Prop} (h : ∀ i j, S i → S j → Ln p M (a i j)) : ∀ (R C : List Nat), (∀ i ∈ R, S i) → (∀ c ∈ C, S c) → Ln p (R.length * M + 1) (det a R C)
  | [], _, _, _ => fun i hi => by rw [det_nil]; unfold pone; rw [if_neg (by simp at hi; omega)]; exact Int.zero_emod p
  | r :: R, C, hR, hC => by
    rw [det_cons]
    refine alt_close (Q := Ln p ((R.length + 1) * M + 1)) (fun _ _ => Ln.psb) (Ln.zero p _) C _ fun c X _ hc hX => ?_
    refine (h r c (hR r (by simp)) (hC c hc)).mul (det_Ln h R X (fun i hi => hR i (by simp [hi])) fun x hx => hC x (hX x hx)) ?_
    rw [Nat.add_mul]; omega
/-- Multiples of the first row taken from the others, so that what is left of the first column is shorter than the corner. -/
theorem Bnd.clearR {p : Int} (hp : Pr p) {N k n d M : Nat} {a b : Nat → Nat → PS} {q : Nat → PS} (hk : k < n) (h : Bnd p N k n a) (hq : RowAdd p (Part k n) k q a b) (hP : a k k d % p ≠ 0) (hPl : Ln p (d + 1) (a k k))
    (hc : ∀ i, k < i → i < n → Ln p d (b i k)) (hM : ∀ i j, Part k n i → Part k n j → Ln p M (b i j)) : Bnd p N k n b := by
  have hkk : Part k n k := ⟨Nat.le_refl k, hk⟩
  have hk0 : ∀ (q' : Nat → PS), RowAdd p (Part k n) k q' a b → Bnd p N k n (fun i j => if i = k then a k j else padd (a i j) (pmul (q' i) (a k j))) → Bnd p N k n b := fun q' h1 h2 => h2.eqp fun i j hi hj => h1 i j hi hj
  -- the exact matrix
  obtain ⟨q', hq'k, hq'⟩ : ∃ q' : Nat → PS, q' k = pzero ∧ RowAdd p (Part k n) k q' a b := ⟨fun i => if i = k then pzero else q i, if_pos rfl, fun i j hi hj => by
    have := hq i j hi hj
    by_cases e : i = k
    · rw [if_pos e] at this ⊢; exact this
    · rw [if_neg e] at this ⊢
      show Eqp p (b i j) (padd (a i j) (pmul (if i = k then pzero else q i) (a k j)))
      rw [if_neg e]; exact this⟩
  clear hk0
  obtain ⟨b', hb'⟩ : ∃ b' : Nat → Nat → PS, ∀ i, b' i = fun c => padd (a i c) (pmul (q' i) (a k c)) := ⟨_, fun i => rfl⟩
  have hbb : ∀ i j, Part k n i → Part k n j → Eqp p (b i j) (b' i j) := fun i j hi hj => by
    have := hq' i j hi hj
    rw [hb']
    by_cases e : i = k
    · subst e
      rw [if_pos rfl] at this
      show Eqp p (b i j) (padd (a i j) (pmul (q' i) (a i j)))
      rw [hq'k, pzero_mul, padd_pzero]; exact this
    · rwa [if_neg e] at this
  have hbk : b' k = a k := by rw [hb', hq'k]; funext c; rw [pzero_mul, padd_pzero]
  refine Bnd.eqp (fun i j hi hj => hbb i j hi hj) ?_
  have hwith : ∀ R C : List Nat, (∀ i ∈ R, Part k n i) → (∀ c ∈ C, Part k n c) → R.length + 1 = C.length → Ln p N (det b' (k :: R) C) := fun R C hR hC hl => by
    have e : det b' (k :: R) C = det a (k :: R) C := by
      have := detR_less (a k) a b' q' R (fun i _ => hb' i) [a k] C (by simp)
      unfold det
      rw [List.map_cons, List.map_cons, hbk]
      exact this
    rw [e]
    exact h (k :: R) C (fun i hi => by
      rcases List.mem_cons.1 hi with rfl | hi
      · exact hkk
      · exact hR i hi) hC (by simpa using hl)
  intro R C hR hC hl
  by_cases hkR : k ∈ R
  · obtain ⟨A, B, e⟩ := List.append_of_mem hkR
    have hperm : R.Perm (k :: (A ++ B)) := e ▸ List.perm_middle
    obtain ⟨s, _, hs⟩ := det_perm b' hperm
    rw [hs C]
    refine Ln.smul s (hwith (A ++ B) C (fun i hi => hR i (hperm.mem_iff.2 (by simp [hi]))) hC ?_)
    have := hperm.length_eq
    simp only [List.length_cons] at this
    omega
  · have hfin : Ln p (R.length * M + 1) (det b' R C) := (det_Ln (S := Part k n) hM R C hR hC).eqp (det_eqp R C fun i hi c hc => (hbb i c (hR i hi) (hC c hc)).symm)
    refine Ln.top hp (f := b' k k) (d := d) (N := R.length * M + 1) (by rw [hbk]; exact hPl) (by rw [hbk]; exact hP) hfin ?_
    have e := det_first b' k k R C hl
    have e2 : pmul (b' k k) (det b' R C) = padd (det b' (k :: R) (k :: C)) (alt (fun y Y => pmul (b' y k) (det b' (k :: Y) C)) R) := by
      rw [e]; funext m; show _ = _ + -1 * _ + _; omega
    rw [e2]
    refine Ln.add ((hwith R (k :: C) hR (fun c hc => by
      rcases List.mem_cons.1 hc with rfl | hc
      · exact hkk
      · exact hC c hc) (by simp [hl])).le (by omega)) ?_
    refine alt_close (Q := Ln p (d + N)) (fun _ _ => Ln.psb) (Ln.zero p _) R _ fun y Y hY hy hYR => ?_
    have hyp := hR y hy
    have hyk : k < y := Nat.lt_of_le_of_ne hyp.1 fun e => hkR (e ▸ hy)
    have h1 : Ln p d (b' y k) := (hc y hyk hyp.2).eqp (hbb y k hyp hkk).symm
    exact h1.mul (hwith Y C (fun i hi => hR i (hYR i hi)) hC (by omega)) (by omega)
theorem Bnd.clearC {p : Int} (hp : Pr p) {N k n d M : Nat} {a b : Nat → Nat → PS} {q : Nat → PS} (hk : k < n) (h : Bnd p N k n a) (hq : RowAdd p (Part k n) k q (fun i j => a j i) (fun i j => b j i)) (hP : a k k d % p ≠ 0) (hPl : Ln p (d + 1) (a k k))
    (hc : ∀ i, k < i → i < n → Ln p d (b k i)) (hM : ∀ i j, Part k n i → Part k n j → Ln p M (b i j)) : Bnd p N k n b :=
  (Bnd.clearR hp (a := fun i j => a j i) (b := fun i j => b j i) hk h.flip hq hP hPl hc fun i j hi hj => hM j i hj hi).flip
/-- The beginning: entries of at most two coefficients. -/
theorem det_two {p : Int} {a : Nat → Nat → PS} {S : Nat → Prop} (h : ∀ i j, S i → S j → Ln p 2 (a i j)) : ∀ (R C : List Nat), (∀ i ∈ R, S i) → (∀ c ∈ C, S c) → Ln p (R.length + 1) (det a R C)
  | [], _, _, _ => fun i hi => by rw [det_nil]; unfold pone; rw [if_neg (by simp at hi; omega)]; exact Int.zero_emod p
  | r :: R, C, hR, hC => by
    rw [det_cons]
    refine alt_close (Q := Ln p (R.length + 1 + 1)) (fun _ _ => Ln.psb) (Ln.zero p _) C _ fun c X _ hc hX => ?_
    exact (h r c (hR r (by simp)) (hC c hc)).mul (det_two h R X (fun i hi => hR i (by simp [hi])) fun x hx => hC x (hX x hx)) (by omega)
theorem Bnd.start {p : Int} {n : Nat} {a : Nat → Nat → PS} (h : ∀ i j, i < n → j < n → Ln p 2 (a i j)) : Bnd p (n + 1) 0 n a := fun R C hR hC hl => by
  by_cases hd : R.Nodup
  · have := nodup_bound n R hd fun x hx => (hR x hx).2
    exact (det_two (S := Part 0 n) (fun i j hi hj => h i j hi.2 hj.2) R C hR hC).le (by omega)
  · rw [det_dup a hd]; exact Ln.zero p _
/-- The characteristic polynomial is not 0. -/
theorem det_lead {p : Int} {a : Nat → Nat → PS} {n : Nat} (h2 : ∀ i j, i < n → j < n → Ln p 2 (a i j)) (h1 : ∀ i j, i < n → j < n → i ≠ j → Ln p 1 (a i j)) (hd : ∀ i, i < n → a i i 1 % p = 1 % p) :
    ∀ (R : List Nat), R.Nodup → (∀ i ∈ R, i < n) → det a R R R.length % p = 1 % p
  | [], _, _ => rfl
  | r :: R, hn, hR => by
    have hnd := List.nodup_cons.1 hn
    rw [det_cons]
    have hr := hR r (by simp)
    have hRn : ∀ i ∈ R, i < n := fun i hi => hR i (by simp [hi])
    have hz : Ln p (R.length + 1) (alt (fun x X => pmul (a r x) (det a R (r :: X))) R) := by
      refine alt_close (Q := Ln p (R.length + 1)) (fun _ _ => Ln.psb) (Ln.zero p _) R _ fun c X _ hc hX => ?_
      refine (h1 r c hr (hRn c hc) fun e => hnd.1 (e ▸ hc)).mul (det_two (S := (· < n)) h2 R (r :: X) hRn fun x hx => ?_) (by omega)
      rcases List.mem_cons.1 hx with rfl | hx
      · exact hr
      · exact hRn x (hX x hx)
    show (pmul (a r r) (det a R R) (R.length + 1) + -1 * alt (fun x X => pmul (a r x) (det a R (r :: X))) R (R.length + 1)) % p = 1 % p
    rw [Int.add_emod, emod_mul_zero_right (hz _ (Nat.le_refl _)), Int.add_zero, Int.emod_emod_of_dvd _ (Int.dvd_refl p)]
    have hl := det_two (S := (· < n)) h2 R R hRn hRn
    have : pmul (a r r) (det a R R) (R.length + 1) % p = a r r 1 * det a R R (R.length + 1 - 1) % p := sumN_one_mod (by omega) fun j hj hne => by
      by_cases e : 2 ≤ j
      · exact emod_mul_zero_left (h2 r r hr hr j e)
      · exact emod_mul_zero_right (hl _ (by omega))
    rw [this, Nat.add_sub_cancel, Int.mul_emod, hd r hr, det_lead h2 h1 hd R hnd.2 hRn, ← Int.mul_emod]; rfl
theorem char_ne {p : Int} (hp : Pr p) {a : Nat → Nat → PS} {n : Nat} (h2 : ∀ i j, i < n → j < n → Ln p 2 (a i j)) (h1 : ∀ i j, i < n → j < n → i ≠ j → Ln p 1 (a i j)) (hd : ∀ i, i < n → a i i 1 % p = 1 % p) : ¬ AllMinK (Dv p pzero) (· < n) n a := fun h => by
  obtain ⟨q, N, _, e⟩ := h (List.range n) (List.range n) (fun i hi => List.mem_range.1 hi) (fun i hi => List.mem_range.1 hi) (List.length_range) (List.length_range)
  have h3 := det_lead h2 h1 hd (List.range n) List.nodup_range fun i hi => List.mem_range.1 hi
  rw [pmul_pzero] at e
  have h4 := e (List.range n).length
  rw [h3] at h4
  have hp2 := hp.pos
  have : (1 : Int) % p = 0 % p := h4
  rw [Int.emod_eq_of_lt (by omega) (by omega), Int.zero_emod] at this
  omega
/-- A row of zeros. -/
theorem zero_row {p : Int} {a : Nat → Nat → PS} {n k : Nat} (hk : k < n) (h : ∀ j, j < n → Eqp p (a k j) pzero) : AllMinK (Dv p pzero) (· < n) n a := fun R C hR hC h1 h2 => by
  by_cases hd : R.Nodup
  · have hkR : k ∈ R := Classical.byContradiction fun hn => by
      have := nodup_bound n (k :: R) (List.nodup_cons.2 ⟨hn, hd⟩) fun x hx => by
        rcases List.mem_cons.1 hx with rfl | hx
        · exact hk
        · exact hR x hx
      simp at this; omega
    obtain ⟨A, B, e⟩ := List.append_of_mem hkR
    obtain ⟨s, _, hs⟩ := det_perm a (e ▸ List.perm_middle : R.Perm (k :: (A ++ B)))
    rw [hs C]
    refine Dv.smul s ?_
    rw [det_cons]
    refine alt_close (Q := Dv p pzero) (fun _ _ h1 h2 => h1.add (h2.smul (-1))) (Dv.zero _) C _ fun c X _ hc _ => ?_
    exact (Dv.zero pzero).congr ((Eqp.mul (h c (hC c hc)) (Eqp.refl _)).trans (Eqp.of_eq (pzero_mul _)))
  · rw [det_dup a hd]; exact Dv.zero _
end Go.Proofs.Ytnkkkgaojhkniab

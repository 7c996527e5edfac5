/- Several texts in one: Plain, Ring, Div, Acc, Bez, Cong, Com, Pw, Pn, Alg, Res, Log, Span. -/
set_option linter.unusedVariables false
set_option linter.unusedSimpArgs false
/- Plain lists of coefficients: trimming, reading at a place, equality by coefficients. No program in sight. -/
namespace Go.Proofs.Ytojkngdabejjdaa

/-- The coefficient at a place, 0 behind the end. -/
def cf (a : List Int) (i : Nat) : Int := a.getD i 0

/-- A list without zeros at its end. -/
def trim : List Int → List Int
  | [] => []
  | x :: xs => if trim xs = [] ∧ x = 0 then [] else x :: trim xs

/-- No zero at the end. -/
def Tr (a : List Int) : Prop := a.length = 0 ∨ cf a (a.length - 1) ≠ 0

/-- The trimmed list of the first n values of a function. -/
def mkp (n : Nat) (f : Nat → Int) : List Int := trim ((List.range n).map f)

theorem cf_nil (i : Nat) : cf [] i = 0 := by simp [cf]
theorem cf_cons_zero (x : Int) (xs : List Int) : cf (x :: xs) 0 = x := by simp [cf]
theorem cf_cons_succ (x : Int) (xs : List Int) (i : Nat) : cf (x :: xs) (i + 1) = cf xs i := by simp [cf]
theorem cf_ge (a : List Int) (i : Nat) (h : a.length ≤ i) : cf a i = 0 := by
  unfold cf; rw [List.getD_eq_getElem?_getD, List.getElem?_eq_none h]; rfl
theorem cf_lt (a : List Int) (i : Nat) (h : i < a.length) : cf a i = a[i] := by
  unfold cf; rw [List.getD_eq_getElem?_getD, List.getElem?_eq_getElem h]; rfl
theorem cf_mem (a : List Int) (i : Nat) (h : i < a.length) : cf a i ∈ a := by
  rw [cf_lt a i h]; exact List.getElem_mem h

theorem cf_map_range (n : Nat) (f : Nat → Int) (i : Nat) : cf ((List.range n).map f) i = if i < n then f i else 0 := by
  unfold cf
  rw [List.getD_eq_getElem?_getD, List.getElem?_map]
  by_cases h : i < n
  · rw [if_pos h, List.getElem?_range h]; rfl
  · rw [if_neg h, List.getElem?_eq_none (by simpa using h)]; rfl

theorem list_ext_cf {a b : List Int} (hl : a.length = b.length) (h : ∀ i, cf a i = cf b i) : a = b := by
  apply List.ext_getElem hl
  intro i h1 h2
  have := h i
  rwa [cf_lt a i h1, cf_lt b i h2] at this

theorem trim_cf (a : List Int) : ∀ i, cf (trim a) i = cf a i := by
  induction a with
  | nil => intro i; rfl
  | cons x xs ih =>
    intro i
    unfold trim
    by_cases h : trim xs = [] ∧ x = 0
    · rw [if_pos h, cf_nil]
      cases i with
      | zero => rw [cf_cons_zero]; exact h.2.symm
      | succ i => rw [cf_cons_succ, ← ih i, h.1, cf_nil]
    · rw [if_neg h]
      cases i with
      | zero => rw [cf_cons_zero, cf_cons_zero]
      | succ i => rw [cf_cons_succ, cf_cons_succ, ih i]

theorem trim_length_le (a : List Int) : (trim a).length ≤ a.length := by
  induction a with
  | nil => simp [trim]
  | cons x xs ih =>
    unfold trim
    split
    · simp
    · simp; exact ih

theorem Tr_nil : Tr [] := Or.inl rfl

theorem Tr_cons {x : Int} {xs : List Int} (h : Tr xs) (hx : xs ≠ [] ∨ x ≠ 0) : Tr (x :: xs) := by
  right
  cases xs with
  | nil => simp at hx; simpa [cf] using hx
  | cons y ys =>
    rcases h with h | h
    · simp at h
    · simp only [List.length_cons, Nat.add_sub_cancel] at h ⊢
      rw [cf_cons_succ]; exact h

theorem trim_Tr (a : List Int) : Tr (trim a) := by
  induction a with
  | nil => exact Tr_nil
  | cons x xs ih =>
    unfold trim
    by_cases h : trim xs = [] ∧ x = 0
    · rw [if_pos h]; exact Tr_nil
    · rw [if_neg h]
      refine Tr_cons ih ?_
      by_cases h1 : trim xs = []
      · right; exact fun h2 => h ⟨h1, h2⟩
      · left; exact h1

/-- A trimmed list is as long as its coefficients tell. -/
theorem Tr_length_le {a : List Int} (h : Tr a) {n : Nat} (hn : ∀ i, n ≤ i → cf a i = 0) : a.length ≤ n := by
  rcases h with h | h
  · omega
  · by_cases hl : a.length ≤ n
    · exact hl
    · exact absurd (hn (a.length - 1) (by omega)) h

theorem Tr_ext {a b : List Int} (ha : Tr a) (hb : Tr b) (h : ∀ i, cf a i = cf b i) : a = b := by
  have h1 : a.length ≤ b.length := Tr_length_le ha fun i hi => by rw [h i]; exact cf_ge b i hi
  have h2 : b.length ≤ a.length := Tr_length_le hb fun i hi => by rw [← h i]; exact cf_ge a i hi
  exact list_ext_cf (by omega) h

theorem trim_of_Tr {a : List Int} (h : Tr a) : trim a = a := Tr_ext (trim_Tr a) h (trim_cf a)

theorem trim_eq_nil_iff (a : List Int) : trim a = [] ↔ ∀ i, cf a i = 0 := by
  constructor
  · intro h i; rw [← trim_cf, h, cf_nil]
  · intro h
    exact Tr_ext (trim_Tr a) Tr_nil fun i => by rw [trim_cf, h, cf_nil]

theorem trim_congr {a b : List Int} (h : ∀ i, cf a i = cf b i) : trim a = trim b :=
  Tr_ext (trim_Tr a) (trim_Tr b) fun i => by rw [trim_cf, trim_cf, h]

theorem cf_take (a : List Int) (n i : Nat) : cf (a.take n) i = if i < n then cf a i else 0 := by
  unfold cf
  rw [List.getD_eq_getElem?_getD, List.getD_eq_getElem?_getD, List.getElem?_take]
  split <;> rfl

/-- What the program's loop from the end finds. -/
theorem trim_eq_take (a : List Int) (n : Nat) (hn : n ≤ a.length) (hz : ∀ i, n ≤ i → cf a i = 0) (hl : n = 0 ∨ cf a (n - 1) ≠ 0) : trim a = a.take n := by
  refine Tr_ext (trim_Tr a) ?_ ?_
  · have hlen : (a.take n).length = n := by simp; omega
    rcases hl with h | h
    · left; omega
    · by_cases h0 : n = 0
      · left; omega
      · right; rw [hlen, cf_take, if_pos (by omega)]; exact h
  · intro i
    rw [trim_cf, cf_take]
    split
    · rfl
    · exact hz i (by omega)

theorem mkp_cf (n : Nat) (f : Nat → Int) (i : Nat) : cf (mkp n f) i = if i < n then f i else 0 := by
  unfold mkp; rw [trim_cf, cf_map_range]
theorem mkp_Tr (n : Nat) (f : Nat → Int) : Tr (mkp n f) := trim_Tr _
theorem mkp_length (n : Nat) (f : Nat → Int) : (mkp n f).length ≤ n := by
  unfold mkp; have := trim_length_le ((List.range n).map f); simpa using this
/-- Two such lists, by their coefficients. -/
theorem mkp_ext {n m : Nat} {f g : Nat → Int} (h : ∀ i, (if i < n then f i else 0) = (if i < m then g i else 0)) : mkp n f = mkp m g :=
  Tr_ext (mkp_Tr n f) (mkp_Tr m g) fun i => by rw [mkp_cf, mkp_cf, h]
theorem mkp_eq {n : Nat} {f : Nat → Int} {a : List Int} (ha : Tr a) (h : ∀ i, (if i < n then f i else 0) = cf a i) : mkp n f = a :=
  Tr_ext (mkp_Tr n f) ha fun i => by rw [mkp_cf, h]

/-- All coefficients are numbers modulo p. -/
def Md (p : Int) (a : List Int) : Prop := ∀ i, 0 ≤ cf a i ∧ cf a i < p
theorem Md_of_mem {p : Int} (hp : 0 < p) {a : List Int} (h : ∀ x ∈ a, 0 ≤ x ∧ x < p) : Md p a := fun i => by
  by_cases hi : i < a.length
  · exact h _ (cf_mem a i hi)
  · rw [cf_ge a i (by omega)]; omega
theorem Md_nil {p : Int} (hp : 0 < p) : Md p [] := fun i => by rw [cf_nil]; omega
theorem Md_trim {p : Int} {a : List Int} (h : Md p a) : Md p (trim a) := fun i => by rw [trim_cf]; exact h i
theorem Md_mkp {p : Int} (hp : 0 < p) {n : Nat} {f : Nat → Int} (h : ∀ i, i < n → 0 ≤ f i ∧ f i < p) : Md p (mkp n f) := fun i => by
  rw [mkp_cf]; split
  · exact h i ‹_›
  · omega

/-- A polynomial for p: trimmed, and modulo p. -/
structure Po (p : Int) (a : List Int) : Prop where
  tr : Tr a
  md : Md p a
theorem Po_nil {p : Int} (hp : 0 < p) : Po p [] := ⟨Tr_nil, Md_nil hp⟩
theorem Po.ext {p : Int} {a b : List Int} (ha : Po p a) (hb : Po p b) (h : ∀ i, cf a i = cf b i) : a = b := Tr_ext ha.tr hb.tr h
theorem Po.lead {p : Int} {a : List Int} (ha : Po p a) (h : a ≠ []) : 0 < cf a (a.length - 1) := by
  have h1 := ha.md (a.length - 1)
  rcases ha.tr with h2 | h2
  · exact absurd (List.length_eq_zero_iff.1 h2) h
  · omega
theorem Po.lead_len {p : Int} {a : List Int} (ha : Po p a) (h : 0 < a.length) : 0 < cf a (a.length - 1) :=
  ha.lead (fun e => by rw [e] at h; simp at h)

/-- The primes that the program knows. -/
def Pr (p : Int) : Prop := p = 2 ∨ p = 3 ∨ p = 5 ∨ p = 7
theorem Pr.pos {p : Int} (h : Pr p) : 2 ≤ p ∧ p ≤ 7 := by unfold Pr at h; omega
instance (p : Int) : Decidable (Pr p) := by unfold Pr; infer_instance

end Go.Proofs.Ytojkngdabejjdaa

/- Sequences of whole numbers with sums and products (power series), and what holds modulo p. No program in sight. -/
namespace Go.Proofs.Ytojkngdabejjdaa

def sumN : Nat → (Nat → Int) → Int
  | 0, _ => 0
  | n + 1, f => sumN n f + f n
theorem sumN_congr {n : Nat} {f g : Nat → Int} (h : ∀ i, i < n → f i = g i) : sumN n f = sumN n g := by
  induction n with
  | zero => rfl
  | succ n ih => show sumN n f + f n = sumN n g + g n; rw [ih fun i hi => h i (by omega), h n (by omega)]
theorem sumN_zero (n : Nat) : sumN n (fun _ => 0) = 0 := by
  induction n with
  | zero => rfl
  | succ n ih => show sumN n _ + 0 = 0; rw [ih]; rfl
theorem sumN_add (n : Nat) (f g : Nat → Int) : sumN n (fun i => f i + g i) = sumN n f + sumN n g := by
  induction n with
  | zero => rfl
  | succ n ih => show sumN n _ + (f n + g n) = (sumN n f + f n) + (sumN n g + g n); rw [ih]; omega
theorem sumN_mul (n : Nat) (c : Int) (f : Nat → Int) : sumN n (fun i => c * f i) = c * sumN n f := by
  induction n with
  | zero => simp [sumN]
  | succ n ih => show sumN n _ + c * f n = c * (sumN n f + f n); rw [ih, Int.mul_add]
theorem sumN_mul_right (n : Nat) (c : Int) (f : Nat → Int) : sumN n (fun i => f i * c) = sumN n f * c := by
  rw [Int.mul_comm, ← sumN_mul]; exact sumN_congr fun i _ => Int.mul_comm _ _
/-- The first term apart. -/
theorem sumN_first (n : Nat) (f : Nat → Int) : sumN (n + 1) f = f 0 + sumN n (fun i => f (i + 1)) := by
  induction n with
  | zero => simp [sumN]
  | succ n ih => show sumN (n + 1) f + f (n + 1) = f 0 + (sumN n (fun i => f (i + 1)) + f (n + 1)); rw [ih]; omega
theorem sumN_rev (n : Nat) (f : Nat → Int) : sumN n f = sumN n (fun i => f (n - 1 - i)) := by
  induction n generalizing f with
  | zero => rfl
  | succ n ih =>
    rw [sumN_first n f, ih (fun i => f (i + 1))]
    show f 0 + sumN n (fun i => f (n - 1 - i + 1)) = sumN n (fun i => f (n - i)) + f (n - n)
    rw [Nat.sub_self, Int.add_comm, sumN_congr (f := fun i => f (n - 1 - i + 1)) (g := fun i => f (n - i)) fun i hi => by congr 1; omega]
theorem sumN_ge {n m : Nat} (h : n ≤ m) {f : Nat → Int} (hz : ∀ i, n ≤ i → f i = 0) : sumN m f = sumN n f := by
  induction m with
  | zero =>
    obtain rfl : n = 0 := by omega
    rfl
  | succ m ih =>
    by_cases e : n = m + 1
    · subst e; rfl
    · show sumN m f + f m = sumN n f
      rw [ih (by omega), hz m (by omega)]; omega
/-- A double sum over a triangle, in either order. -/
theorem sumN_tri (n : Nat) (F : Nat → Nat → Int) : sumN n (fun i => sumN (i + 1) (fun j => F i j)) = sumN n (fun j => sumN (n - j) (fun k => F (j + k) j)) := by
  induction n with
  | zero => rfl
  | succ n ih =>
    show sumN n (fun i => sumN (i + 1) (fun j => F i j)) + sumN (n + 1) (fun j => F n j) = _
    rw [ih]
    have h1 : sumN (n + 1) (fun j => sumN (n + 1 - j) (fun k => F (j + k) j)) = sumN (n + 1) (fun j => sumN (n - j) (fun k => F (j + k) j) + F n j) := by
      apply sumN_congr
      intro j hj
      rw [show n + 1 - j = (n - j) + 1 by omega]
      show sumN (n - j) _ + F (j + (n - j)) j = _
      rw [show j + (n - j) = n by omega]
    rw [h1, sumN_add]
    congr 1
    show sumN n _ = sumN n _ + sumN (n - n) _
    rw [Nat.sub_self]
    simp [sumN]

/-- Sequences. -/
abbrev PS := Nat → Int
def padd (f g : PS) : PS := fun n => f n + g n
def psub (f g : PS) : PS := fun n => f n - g n
def psmul (c : Int) (f : PS) : PS := fun n => c * f n
def pmul (f g : PS) : PS := fun n => sumN (n + 1) (fun i => f i * g (n - i))
def pone : PS := fun n => if n = 0 then 1 else 0
def pzero : PS := fun _ => 0
theorem pmul_comm (f g : PS) : pmul f g = pmul g f := by
  funext n
  unfold pmul
  rw [sumN_rev]
  exact sumN_congr fun i hi => by rw [Int.mul_comm]; congr 2 <;> omega
theorem pmul_add (f g h : PS) : pmul f (padd g h) = padd (pmul f g) (pmul f h) := by
  funext n
  show sumN (n + 1) (fun i => f i * (g (n - i) + h (n - i))) = sumN (n + 1) _ + sumN (n + 1) _
  rw [← sumN_add]
  exact sumN_congr fun i _ => Int.mul_add _ _ _
theorem padd_mul (f g h : PS) : pmul (padd f g) h = padd (pmul f h) (pmul g h) := by
  rw [pmul_comm, pmul_add, pmul_comm h f, pmul_comm h g]
theorem pmul_psmul (c : Int) (f g : PS) : pmul f (psmul c g) = psmul c (pmul f g) := by
  funext n
  show sumN (n + 1) (fun i => f i * (c * g (n - i))) = c * sumN (n + 1) _
  rw [← sumN_mul]
  exact sumN_congr fun i _ => by rw [← Int.mul_assoc, Int.mul_comm (f i) c, Int.mul_assoc]
theorem psmul_pmul (c : Int) (f g : PS) : pmul (psmul c f) g = psmul c (pmul f g) := by
  rw [pmul_comm, pmul_psmul, pmul_comm]
theorem pmul_assoc (f g h : PS) : pmul (pmul f g) h = pmul f (pmul g h) := by
  funext n
  have h1 : pmul (pmul f g) h n = sumN (n + 1) (fun i => sumN (i + 1) (fun j => f j * g (i - j) * h (n - i))) := by
    apply sumN_congr
    intro i _
    show sumN (i + 1) (fun j => f j * g (i - j)) * h (n - i) = _
    rw [sumN_mul_right]
  rw [h1, sumN_tri]
  apply sumN_congr
  intro j hj
  show _ = f j * sumN (n - j + 1) (fun k => g k * h (n - j - k))
  rw [← sumN_mul, show n + 1 - j = n - j + 1 by omega]
  exact sumN_congr fun k hk => by
    rw [show j + k - j = k by omega, show n - (j + k) = n - j - k by omega, Int.mul_assoc]
theorem pone_mul (f : PS) : pmul pone f = f := by
  funext n
  show sumN (n + 1) (fun i => pone i * f (n - i)) = f n
  rw [sumN_first]
  have h1 : sumN n (fun i => pone (i + 1) * f (n - (i + 1))) = 0 := by
    rw [← sumN_zero n]
    exact sumN_congr fun i _ => by unfold pone; rw [if_neg (by omega), Int.zero_mul]
  rw [h1]
  unfold pone
  simp
theorem pmul_one (f : PS) : pmul f pone = f := by rw [pmul_comm, pone_mul]
theorem padd_comm (f g : PS) : padd f g = padd g f := by funext n; exact Int.add_comm _ _
theorem padd_assoc (f g h : PS) : padd (padd f g) h = padd f (padd g h) := by funext n; exact Int.add_assoc _ _ _
theorem pzero_mul (f : PS) : pmul pzero f = pzero := by
  funext n
  show sumN (n + 1) (fun i => 0 * f (n - i)) = 0
  exact (sumN_congr fun i _ => Int.zero_mul _).trans (sumN_zero (n + 1))

/-- Equal modulo p. -/
def Eqp (p : Int) (f g : PS) : Prop := ∀ n, f n % p = g n % p
theorem Eqp.refl {p : Int} (f : PS) : Eqp p f f := fun _ => rfl
theorem Eqp.symm {p : Int} {f g : PS} (h : Eqp p f g) : Eqp p g f := fun n => (h n).symm
theorem Eqp.trans {p : Int} {f g k : PS} (h : Eqp p f g) (h2 : Eqp p g k) : Eqp p f k := fun n => (h n).trans (h2 n)
theorem Eqp.of_eq {p : Int} {f g : PS} (h : f = g) : Eqp p f g := h ▸ Eqp.refl f
theorem emod_add_congr {p a b c d : Int} (h : a % p = b % p) (k : c % p = d % p) : (a + c) % p = (b + d) % p := by
  rw [Int.add_emod, h, k, ← Int.add_emod]
theorem emod_mul_congr {p a b c d : Int} (h : a % p = b % p) (k : c % p = d % p) : (a * c) % p = (b * d) % p := by
  rw [Int.mul_emod, h, k, ← Int.mul_emod]
theorem emod_sub_congr {p a b c d : Int} (h : a % p = b % p) (k : c % p = d % p) : (a - c) % p = (b - d) % p := by
  rw [Int.sub_emod, h, k, ← Int.sub_emod]
theorem Eqp.add {p : Int} {f g f' g' : PS} (h : Eqp p f f') (k : Eqp p g g') : Eqp p (padd f g) (padd f' g') := fun n => emod_add_congr (h n) (k n)
theorem Eqp.sub {p : Int} {f g f' g' : PS} (h : Eqp p f f') (k : Eqp p g g') : Eqp p (psub f g) (psub f' g') := fun n => emod_sub_congr (h n) (k n)
theorem Eqp.smul {p c : Int} {f f' : PS} (h : Eqp p f f') : Eqp p (psmul c f) (psmul c f') := fun n => emod_mul_congr rfl (h n)
theorem sumN_emod {p : Int} {n : Nat} {f g : Nat → Int} (h : ∀ i, i < n → f i % p = g i % p) : sumN n f % p = sumN n g % p := by
  induction n with
  | zero => rfl
  | succ n ih => exact emod_add_congr (ih fun i hi => h i (by omega)) (h n (by omega))
theorem Eqp.mul {p : Int} {f g f' g' : PS} (h : Eqp p f f') (k : Eqp p g g') : Eqp p (pmul f g) (pmul f' g') := fun n =>
  sumN_emod fun i _ => emod_mul_congr (h i) (k (n - i))

/-- No coefficients from n on. -/
def Fin0 (f : PS) (n : Nat) : Prop := ∀ i, n ≤ i → f i = 0
theorem Fin0.mul {f g : PS} {n m : Nat} (hf : Fin0 f n) (hg : Fin0 g m) : ∀ i, n + m ≤ i + 1 → pmul f g i = 0 := by
  intro i hi
  show sumN (i + 1) (fun j => f j * g (i - j)) = 0
  rw [← sumN_zero (i + 1)]
  exact sumN_congr fun j _ => by
    by_cases h : n ≤ j
    · rw [hf j h, Int.zero_mul]
    · rw [hg (i - j) (by omega), Int.mul_zero]
theorem sumN_single {n k : Nat} (hk : k < n) {f : Nat → Int} (h : ∀ i, i < n → i ≠ k → f i = 0) : sumN n f = f k := by
  induction n with
  | zero => omega
  | succ n ih =>
    show sumN n f + f n = f k
    by_cases e : k = n
    · subst e
      have : sumN k f = 0 := by rw [← sumN_zero k]; exact sumN_congr fun i hi => h i (by omega) (by omega)
      omega
    · rw [ih (by omega) fun i hi hne => h i (by omega) hne, h n (by omega) (by omega)]; omega
/-- The top coefficient of a product. -/
theorem top_mul {f g : PS} {n m : Nat} (hf : Fin0 f (n + 1)) (hg : Fin0 g (m + 1)) : pmul f g (n + m) = f n * g m := by
  show sumN (n + m + 1) (fun j => f j * g (n + m - j)) = _
  rw [sumN_single (k := n) (by omega) fun i _ hne => by
    by_cases h : n + 1 ≤ i
    · rw [hf i h, Int.zero_mul]
    · rw [hg (n + m - i) (by omega), Int.mul_zero]]
  rw [show n + m - n = m by omega]
theorem cf_Fin0 (a : List Int) : Fin0 (cf a) a.length := fun i hi => cf_ge a i hi

/-- The sum a + t b. -/
def addp (p : Int) (a b : List Int) (t : Int) : List Int := mkp (max a.length b.length) (fun i => (cf a i + t * cf b i) % p)
theorem addp_cf {p : Int} (a b : List Int) (t : Int) (i : Nat) : cf (addp p a b t) i = (cf a i + t * cf b i) % p := by
  unfold addp; rw [mkp_cf]
  split
  · rfl
  · rw [cf_ge a i (by omega), cf_ge b i (by omega)]; simp
theorem addp_Po {p : Int} (hp : 0 < p) (a b : List Int) (t : Int) : Po p (addp p a b t) :=
  ⟨mkp_Tr _ _, fun i => by rw [addp_cf]; exact ⟨Int.emod_nonneg _ (by omega), Int.emod_lt_of_pos _ hp⟩⟩
theorem addp_length (p : Int) (a b : List Int) (t : Int) : (addp p a b t).length ≤ max a.length b.length := mkp_length _ _
theorem addp_eqp (p : Int) (a b : List Int) (t : Int) : Eqp p (cf (addp p a b t)) (padd (cf a) (psmul t (cf b))) := fun n => by
  rw [addp_cf, Int.emod_emod_of_dvd _ (Int.dvd_refl p)]; rfl

/-- The product. -/
def mulp (p : Int) (a b : List Int) : List Int := mkp (a.length + b.length) (fun n => pmul (cf a) (cf b) n % p)
theorem mulp_cf {p : Int} (a b : List Int) (n : Nat) : cf (mulp p a b) n = pmul (cf a) (cf b) n % p := by
  unfold mulp; rw [mkp_cf]
  split
  · rfl
  · rw [Fin0.mul (cf_Fin0 a) (cf_Fin0 b) n (by omega)]; simp
theorem mulp_Po {p : Int} (hp : 0 < p) (a b : List Int) : Po p (mulp p a b) :=
  ⟨mkp_Tr _ _, fun i => by rw [mulp_cf]; exact ⟨Int.emod_nonneg _ (by omega), Int.emod_lt_of_pos _ hp⟩⟩
theorem mulp_eqp (p : Int) (a b : List Int) : Eqp p (cf (mulp p a b)) (pmul (cf a) (cf b)) := fun n => by
  rw [mulp_cf, Int.emod_emod_of_dvd _ (Int.dvd_refl p)]
theorem Po.eq_of_eqp {p : Int} {a b : List Int} (ha : Po p a) (hb : Po p b) (h : Eqp p (cf a) (cf b)) : a = b :=
  ha.ext hb fun i => by
    have := h i
    rwa [Int.emod_eq_of_lt (ha.md i).1 (ha.md i).2, Int.emod_eq_of_lt (hb.md i).1 (hb.md i).2] at this

/-- Products of numbers modulo a prime. -/
theorem pr_mul_ne {p x y : Int} (hp : Pr p) (hx : 0 < x) (hx1 : x < p) (hy : 0 < y) (hy1 : y < p) : x * y % p ≠ 0 := by
  have hp2 := hp.pos
  obtain ⟨X, rfl⟩ := Int.eq_ofNat_of_zero_le (show 0 ≤ x by omega)
  obtain ⟨Y, rfl⟩ := Int.eq_ofNat_of_zero_le (show 0 ≤ y by omega)
  intro h
  have h' : ((X * Y : Nat) : Int) % p = 0 := by simpa using h
  rcases hp with rfl | rfl | rfl | rfl
  · have key : ∀ X Y : Fin 2, 0 < X.val → 0 < Y.val → X.val * Y.val % 2 ≠ 0 := by decide
    exact key ⟨X, by omega⟩ ⟨Y, by omega⟩ (by simp; omega) (by simp; omega) (by simp only []; omega)
  · have key : ∀ X Y : Fin 3, 0 < X.val → 0 < Y.val → X.val * Y.val % 3 ≠ 0 := by decide
    exact key ⟨X, by omega⟩ ⟨Y, by omega⟩ (by simp; omega) (by simp; omega) (by simp only []; omega)
  · have key : ∀ X Y : Fin 5, 0 < X.val → 0 < Y.val → X.val * Y.val % 5 ≠ 0 := by decide
    exact key ⟨X, by omega⟩ ⟨Y, by omega⟩ (by simp; omega) (by simp; omega) (by simp only []; omega)
  · have key : ∀ X Y : Fin 7, 0 < X.val → 0 < Y.val → X.val * Y.val % 7 ≠ 0 := by decide
    exact key ⟨X, by omega⟩ ⟨Y, by omega⟩ (by simp; omega) (by simp; omega) (by simp only []; omega)

theorem mulp_nil (p : Int) (b : List Int) : mulp p [] b = [] :=
  Tr_ext (mkp_Tr _ _) Tr_nil fun n => by
    rw [mulp_cf, cf_nil, show cf ([] : List Int) = pzero by funext i; exact cf_nil i, pzero_mul]
    show (0 : Int) % p = 0
    simp
theorem mulp_comm (p : Int) (a b : List Int) : mulp p a b = mulp p b a :=
  Tr_ext (mkp_Tr _ _) (mkp_Tr _ _) fun n => by rw [mulp_cf, mulp_cf, pmul_comm]
theorem mulp_nil_right (p : Int) (a : List Int) : mulp p a [] = [] := by rw [mulp_comm, mulp_nil]
/-- The degree of a product. -/
theorem mulp_length {p : Int} (hp : Pr p) {a b : List Int} (ha : Po p a) (hb : Po p b) (h1 : a ≠ []) (h2 : b ≠ []) : (mulp p a b).length + 1 = a.length + b.length := by
  have l1 : 0 < a.length := List.length_pos_iff.2 h1
  have l2 : 0 < b.length := List.length_pos_iff.2 h2
  have hle : (mulp p a b).length ≤ a.length + b.length - 1 := Tr_length_le (mkp_Tr _ _) fun i hi => by
    show cf (mulp p a b) i = 0
    rw [mulp_cf, Fin0.mul (cf_Fin0 a) (cf_Fin0 b) i (by omega)]; simp
  have hne : cf (mulp p a b) (a.length - 1 + (b.length - 1)) ≠ 0 := by
    rw [mulp_cf, top_mul (fun i hi => cf_ge a i (by omega)) (fun i hi => cf_ge b i (by omega))]
    exact pr_mul_ne hp (ha.lead h1) (ha.md _).2 (hb.lead h2) (hb.md _).2
  by_cases h : (mulp p a b).length ≤ a.length - 1 + (b.length - 1)
  · exact absurd (cf_ge _ _ h) hne
  · omega

end Go.Proofs.Ytojkngdabejjdaa

/- Division with rest, as the program reckons it, and what it gives. No program in sight. -/
namespace Go.Proofs.Ytojkngdabejjdaa

def powm (p x : Int) : Nat → Int
  | 0 => 1
  | n + 1 => powm p x n * x % p
/-- The inverse of a number. -/
def invp (p x : Int) : Int := powm p x (p - 2).toNat
theorem invp_spec {p x : Int} (hp : Pr p) (h0 : 0 < x) (h1 : x < p) : 0 < invp p x ∧ invp p x < p ∧ invp p x * x % p = 1 := by
  obtain ⟨X, rfl⟩ := Int.eq_ofNat_of_zero_le (show 0 ≤ x by omega)
  rcases hp with rfl | rfl | rfl | rfl
  · have key : ∀ X : Fin 2, 0 < X.val → 0 < invp 2 X.val ∧ invp 2 X.val < 2 ∧ invp 2 X.val * X.val % 2 = 1 := by decide
    exact key ⟨X, by omega⟩ (by simp; omega)
  · have key : ∀ X : Fin 3, 0 < X.val → 0 < invp 3 X.val ∧ invp 3 X.val < 3 ∧ invp 3 X.val * X.val % 3 = 1 := by decide
    exact key ⟨X, by omega⟩ (by simp; omega)
  · have key : ∀ X : Fin 5, 0 < X.val → 0 < invp 5 X.val ∧ invp 5 X.val < 5 ∧ invp 5 X.val * X.val % 5 = 1 := by decide
    exact key ⟨X, by omega⟩ (by simp; omega)
  · have key : ∀ X : Fin 7, 0 < X.val → 0 < invp 7 X.val ∧ invp 7 X.val < 7 ∧ invp 7 X.val * X.val % 7 = 1 := by decide
    exact key ⟨X, by omega⟩ (by simp; omega)

/-- One step: the multiple of b at T^i is taken away. -/
def dstep (p inv : Int) (b : List Int) (i : Nat) (r : PS) : PS :=
  fun n => if i ≤ n ∧ n < i + b.length then (r n - r (i + (b.length - 1)) * inv % p * cf b (n - i)) % p else r n
def drest (p inv : Int) (b : List Int) : Nat → PS → PS
  | 0, r => r
  | k + 1, r => drest p inv b k (dstep p inv b k r)
def dquot (p inv : Int) (b : List Int) : Nat → PS → PS
  | 0, _ => fun _ => 0
  | k + 1, r => fun j => if j = k then r (k + (b.length - 1)) * inv % p else dquot p inv b k (dstep p inv b k r) j

/-- Quotient and rest. -/
def divp (p : Int) (a b : List Int) : List Int × List Int :=
  (mkp (a.length - (b.length - 1)) (dquot p (invp p (cf b (b.length - 1))) b (a.length - (b.length - 1)) (cf a)),
   mkp a.length (drest p (invp p (cf b (b.length - 1))) b (a.length - (b.length - 1)) (cf a)))

def mono (q : Int) (k : Nat) : PS := fun n => if n = k then q else 0
theorem mono_mul (q : Int) (k : Nat) (g : PS) (n : Nat) : pmul (mono q k) g n = if k ≤ n then q * g (n - k) else 0 := by
  show sumN (n + 1) (fun i => mono q k i * g (n - i)) = _
  by_cases h : k ≤ n
  · rw [if_pos h, sumN_single (k := k) (by omega) fun i _ hne => by unfold mono; rw [if_neg hne, Int.zero_mul]]
    unfold mono; rw [if_pos rfl]
  · rw [if_neg h]
    exact (sumN_congr fun i hi => by unfold mono; rw [if_neg (by omega), Int.zero_mul]).trans (sumN_zero _)

/-- In range. -/
def In (p : Int) (r : PS) : Prop := ∀ n, 0 ≤ r n ∧ r n < p
theorem dstep_In {p inv : Int} (hp : 0 < p) {b : List Int} {i : Nat} {r : PS} (h : In p r) : In p (dstep p inv b i r) := fun n => by
  unfold dstep; split
  · exact ⟨Int.emod_nonneg _ (by omega), Int.emod_lt_of_pos _ hp⟩
  · exact h n
theorem dstep_eqp (p inv : Int) (b : List Int) (k : Nat) (r : PS) :
    Eqp p r (padd (pmul (mono (r (k + (b.length - 1)) * inv % p) k) (cf b)) (dstep p inv b k r)) := fun n => by
  show r n % p = (pmul _ _ n + dstep p inv b k r n) % p
  rw [mono_mul]
  unfold dstep
  by_cases h : k ≤ n
  · rw [if_pos h]
    by_cases h2 : n < k + b.length
    · rw [if_pos ⟨h, h2⟩, Int.add_emod_emod]; congr 1; omega
    · rw [if_neg (fun hh => h2 hh.2), cf_ge b (n - k) (by omega)]; simp
  · rw [if_neg h, if_neg (fun hh => h hh.1)]; simp
theorem dquot_ge (p inv : Int) (b : List Int) : ∀ (k : Nat) (r : PS) (j : Nat), k ≤ j → dquot p inv b k r j = 0
  | 0, _, _, _ => rfl
  | k + 1, r, j, h => by
    show (if j = k then _ else dquot p inv b k (dstep p inv b k r) j) = 0
    rw [if_neg (by omega)]; exact dquot_ge p inv b k _ j (by omega)
theorem dquot_succ (p inv : Int) (b : List Int) (k : Nat) (r : PS) :
    dquot p inv b (k + 1) r = padd (mono (r (k + (b.length - 1)) * inv % p) k) (dquot p inv b k (dstep p inv b k r)) := by
  funext j
  show (if j = k then _ else dquot p inv b k (dstep p inv b k r) j) = mono _ k j + dquot p inv b k (dstep p inv b k r) j
  unfold mono
  by_cases h : j = k
  · rw [if_pos h, if_pos h, dquot_ge p inv b k _ j (by omega)]; omega
  · rw [if_neg h, if_neg h]; omega
theorem div_eqp (p inv : Int) (b : List Int) : ∀ (k : Nat) (r : PS), Eqp p r (padd (pmul (dquot p inv b k r) (cf b)) (drest p inv b k r))
  | 0, r => Eqp.of_eq (by
      show r = padd (pmul pzero (cf b)) r
      rw [pzero_mul]; funext n; show r n = 0 + r n; omega)
  | k + 1, r => by
    refine (dstep_eqp p inv b k r).trans ?_
    rw [dquot_succ, padd_mul, padd_assoc]
    exact (Eqp.refl _).add (div_eqp p inv b k (dstep p inv b k r))
theorem dquot_In {p inv : Int} (hp : 0 < p) (b : List Int) : ∀ (k : Nat) (r : PS), In p (dquot p inv b k r)
  | 0, _ => fun _ => ⟨Int.le_refl _, hp⟩
  | k + 1, r => fun j => by
    show 0 ≤ (if j = k then _ else dquot p inv b k (dstep p inv b k r) j) ∧ (if j = k then _ else dquot p inv b k (dstep p inv b k r) j) < p
    split
    · exact ⟨Int.emod_nonneg _ (by omega), Int.emod_lt_of_pos _ hp⟩
    · exact dquot_In hp b k _ j
theorem drest_In {p inv : Int} (hp : 0 < p) (b : List Int) : ∀ (k : Nat) (r : PS), In p r → In p (drest p inv b k r)
  | 0, _, h => h
  | k + 1, _, h => drest_In hp b k _ (dstep_In hp h)
theorem top_gone {p x y l : Int} (hl : y * l % p = 1) : (x - x * y % p * l) % p = 0 := by
  have h1 : (x * y % p * l) % p = x % p := by
    rw [Int.mul_emod, Int.emod_emod_of_dvd _ (Int.dvd_refl p), ← Int.mul_emod, Int.mul_assoc, Int.mul_emod, hl]
    rw [Int.mul_one, Int.emod_emod_of_dvd _ (Int.dvd_refl p)]
  rw [Int.sub_emod, h1]; simp
theorem drest_Fin {p inv : Int} {b : List Int} (hb : 0 < b.length) (hinv : inv * cf b (b.length - 1) % p = 1) :
    ∀ (k : Nat) (r : PS), Fin0 r (k + (b.length - 1)) → Fin0 (drest p inv b k r) (b.length - 1)
  | 0, r, h => by intro i hi; exact h i (by omega)
  | k + 1, r, h => by
    refine drest_Fin hb hinv k _ fun i hi => ?_
    unfold dstep
    by_cases h1 : i = k + (b.length - 1)
    · rw [if_pos (by omega), h1, show k + (b.length - 1) - k = b.length - 1 by omega]
      exact top_gone hinv
    · rw [if_neg (by omega)]; exact h i (by omega)
/-- What lies behind a's length stays 0. -/
theorem drest_len {p inv : Int} {b : List Int} (hb : 0 < b.length) (L : Nat) : ∀ (k : Nat) (r : PS), k + (b.length - 1) ≤ L → Fin0 r L → Fin0 (drest p inv b k r) L
  | 0, _, _, h => h
  | k + 1, r, hk, h => by
    refine drest_len hb L k _ (by omega) fun i hi => ?_
    unfold dstep
    rw [if_neg (by omega)]; exact h i hi

theorem divp_spec {p : Int} (hp : Pr p) {a b : List Int} (ha : Po p a) (hb : Po p b) (hne : b ≠ []) :
    Po p (divp p a b).1 ∧ Po p (divp p a b).2 ∧ (divp p a b).2.length < b.length ∧ Eqp p (cf a) (padd (pmul (cf (divp p a b).1) (cf b)) (cf (divp p a b).2)) := by
  have hp2 := hp.pos
  have l2 : 0 < b.length := List.length_pos_iff.2 hne
  have hl := hb.lead hne
  have hinv := invp_spec hp hl (hb.md _).2
  have e1 : cf (divp p a b).1 = dquot p (invp p (cf b (b.length - 1))) b (a.length - (b.length - 1)) (cf a) := by
    funext i
    show cf (mkp _ _) i = _
    rw [mkp_cf]; split
    · rfl
    · rw [dquot_ge _ _ _ _ _ _ (by omega)]
  have e2 : cf (divp p a b).2 = drest p (invp p (cf b (b.length - 1))) b (a.length - (b.length - 1)) (cf a) := by
    funext i
    show cf (mkp _ _) i = _
    rw [mkp_cf]; split
    · rfl
    · by_cases h : b.length - 1 ≤ a.length
      · exact (drest_len l2 a.length _ _ (by omega) (cf_Fin0 a) i (by omega)).symm
      · rw [show a.length - (b.length - 1) = 0 by omega]
        exact (cf_ge a i (by omega)).symm
  refine ⟨⟨mkp_Tr _ _, fun i => ?_⟩, ⟨mkp_Tr _ _, fun i => ?_⟩, ?_, ?_⟩
  · rw [e1]; exact dquot_In (by omega) b _ _ i
  · rw [e2]; exact drest_In (by omega) b _ _ ha.md i
  · have := Tr_length_le (a := (divp p a b).2) (mkp_Tr _ _) (n := b.length - 1) fun i hi => by
      rw [e2]
      exact drest_Fin l2 hinv.2.2 _ _ (fun j hj => cf_ge a j (by omega)) i hi
    omega
  · rw [e1, e2]; exact div_eqp _ _ _ _ _

/-- The difference of two polynomials, reduced: 0 only if they are the same. -/
theorem sub_eq_nil {p : Int} {a b : List Int} (ha : Po p a) (hb : Po p b) (h : addp p a b (-1) = []) : a = b := by
  refine ha.eq_of_eqp hb fun n => ?_
  have h1 := addp_cf (p := p) a b (-1) n
  rw [h, cf_nil] at h1
  have h2 : (cf a n - cf b n) % p = 0 := by rw [show cf a n - cf b n = cf a n + -1 * cf b n by omega]; exact h1.symm
  exact Int.emod_eq_emod_iff_emod_sub_eq_zero.2 h2

/-- Quotient and rest are the only ones. -/
theorem divp_unique {p : Int} (hp : Pr p) {b q r q' r' : List Int} (hb : Po p b) (hne : b ≠ []) (hq : Po p q) (hr : Po p r) (hq' : Po p q') (hr' : Po p r')
    (hl : r.length < b.length) (hl' : r'.length < b.length)
    (h : Eqp p (padd (pmul (cf q) (cf b)) (cf r)) (padd (pmul (cf q') (cf b)) (cf r'))) : q = q' ∧ r = r' := by
  have hp2 := hp.pos
  have hd := addp_Po (p := p) (by omega) q q' (-1)
  have hz : addp p q q' (-1) = [] := by
    refine Classical.byContradiction fun hn => ?_
    have hlen := mulp_length hp hd hb hn hne
    have l1 : 0 < (addp p q q' (-1)).length := List.length_pos_iff.2 hn
    have l2 : 0 < b.length := List.length_pos_iff.2 hne
    have hm := mulp_Po (p := p) (by omega) (addp p q q' (-1)) b
    have htop := hm.lead_len (show 0 < (mulp p (addp p q q' (-1)) b).length by omega)
    rw [mulp_cf] at htop
    have e : Eqp p (pmul (cf (addp p q q' (-1))) (cf b)) (psub (cf r') (cf r)) := by
      refine ((addp_eqp p q q' (-1)).mul (Eqp.refl _)).trans ?_
      rw [padd_mul, psmul_pmul]
      intro n
      have h1 : (pmul (cf q) (cf b) n + cf r n) % p = (pmul (cf q') (cf b) n + cf r' n) % p := h n
      show (pmul (cf q) (cf b) n + -1 * pmul (cf q') (cf b) n) % p = (cf r' n - cf r n) % p
      have h2 := Int.emod_eq_emod_iff_emod_sub_eq_zero.1 h1
      refine Int.emod_eq_emod_iff_emod_sub_eq_zero.2 ?_
      rw [← h2]; congr 1; omega
    rw [e] at htop
    have z1 : cf r ((mulp p (addp p q q' (-1)) b).length - 1) = 0 := cf_ge _ _ (by omega)
    have z2 : cf r' ((mulp p (addp p q q' (-1)) b).length - 1) = 0 := cf_ge _ _ (by omega)
    unfold psub at htop
    rw [z1, z2] at htop
    simp at htop
  have hqq := sub_eq_nil hq hq' hz
  subst hqq
  refine ⟨rfl, hr.eq_of_eqp hr' fun n => ?_⟩
  have h1 : (pmul (cf q) (cf b) n + cf r n) % p = (pmul (cf q) (cf b) n + cf r' n) % p := h n
  have h2 := Int.emod_eq_emod_iff_emod_sub_eq_zero.1 h1
  refine Int.emod_eq_emod_iff_emod_sub_eq_zero.2 ?_
  rw [← h2]; congr 1; omega
theorem divp_eq {p : Int} (hp : Pr p) {a b q r : List Int} (ha : Po p a) (hb : Po p b) (hne : b ≠ []) (hq : Po p q) (hr : Po p r) (hl : r.length < b.length)
    (h : Eqp p (cf a) (padd (pmul (cf q) (cf b)) (cf r))) : divp p a b = (q, r) := by
  obtain ⟨h1, h2, h3, h4⟩ := divp_spec hp ha hb hne
  obtain ⟨e1, e2⟩ := divp_unique hp hb hne h1 h2 hq hr h3 hl (h4.symm.trans h)
  exact Prod.ext e1 e2
end Go.Proofs.Ytojkngdabejjdaa

/- Products and divisions as they are summed up step by step. No program in sight. -/
namespace Go.Proofs.Ytojkngdabejjdaa

/-- What is summed up behind i rows and j columns of a product. -/
def prt (f g : PS) (i j k : Nat) : Int := sumN i (fun x => if x ≤ k then f x * g (k - x) else 0) + (if i ≤ k ∧ k < i + j then f i * g (k - i) else 0)
theorem prt_start (f g : PS) (k : Nat) : prt f g 0 0 k = 0 := by
  unfold prt; rw [if_neg (by omega)]; rfl
theorem prt_step (f g : PS) (i j k : Nat) : prt f g i (j + 1) k = if k = i + j then prt f g i j k + f i * g j else prt f g i j k := by
  unfold prt
  by_cases h : k = i + j
  · rw [if_pos h, if_pos (by omega), if_neg (by omega), h, show i + j - i = j by omega]; omega
  · rw [if_neg h]
    by_cases h2 : i ≤ k ∧ k < i + j
    · rw [if_pos h2, if_pos (by omega)]
    · rw [if_neg h2, if_neg (by omega)]
theorem prt_row {f g : PS} {m : Nat} (hg : Fin0 g m) (i k : Nat) : prt f g i m k = prt f g (i + 1) 0 k := by
  unfold prt
  rw [if_neg (show ¬ (i + 1 ≤ k ∧ k < i + 1 + 0) by omega)]
  show _ = (sumN i _ + (if i ≤ k then f i * g (k - i) else 0)) + 0
  by_cases h : i ≤ k
  · rw [if_pos h]
    by_cases h2 : k < i + m
    · rw [if_pos ⟨h, h2⟩]; omega
    · rw [if_neg (by omega), hg (k - i) (by omega), Int.mul_zero]; omega
  · rw [if_neg h, if_neg (by omega)]; omega
theorem prt_skip {f g : PS} {i : Nat} (hf : f i = 0) (k : Nat) : prt f g i 0 k = prt f g (i + 1) 0 k := by
  unfold prt
  rw [if_neg (show ¬ (i + 1 ≤ k ∧ k < i + 1 + 0) by omega), if_neg (show ¬ (i ≤ k ∧ k < i + 0) by omega)]
  show _ = (sumN i _ + (if i ≤ k then f i * g (k - i) else 0)) + 0
  rw [hf]; simp
theorem prt_all {f g : PS} {n : Nat} (hf : Fin0 f n) (k : Nat) : prt f g n 0 k = pmul f g k := by
  unfold prt
  rw [if_neg (by omega), Int.add_zero]
  show _ = sumN (k + 1) (fun i => f i * g (k - i))
  by_cases h : n ≤ k + 1
  · rw [sumN_ge h fun i hi => by rw [hf i hi, Int.zero_mul]]
    exact sumN_congr fun i hi => by rw [if_pos (by omega)]
  · rw [sumN_ge (n := k + 1) (m := n) (by omega) fun i hi => by rw [if_neg (by omega)]]
    exact sumN_congr fun i hi => by rw [if_pos (by omega)]
theorem term_bound {x y : Int} (hx0 : 0 ≤ x) (hx1 : x ≤ 6) (hy0 : 0 ≤ y) (hy1 : y ≤ 6) : 0 ≤ x * y ∧ x * y ≤ 36 := by
  refine ⟨Int.mul_nonneg hx0 hy0, ?_⟩
  have := Int.mul_le_mul_of_nonneg_right hx1 hy0
  omega
theorem prt_bound {f g : PS} (hf : ∀ i, 0 ≤ f i ∧ f i ≤ 6) (hg : ∀ i, 0 ≤ g i ∧ g i ≤ 6) (i j k : Nat) : 0 ≤ prt f g i j k ∧ prt f g i j k ≤ 36 * ((i : Int) + 1) := by
  have hs : ∀ n, 0 ≤ sumN n (fun x => if x ≤ k then f x * g (k - x) else 0) ∧ sumN n (fun x => if x ≤ k then f x * g (k - x) else 0) ≤ 36 * (n : Int) := by
    intro n
    induction n with
    | zero => exact ⟨Int.le_refl _, Int.le_refl _⟩
    | succ n ih =>
      have hb := term_bound (hf n).1 (hf n).2 (hg (k - n)).1 (hg (k - n)).2
      show 0 ≤ sumN n _ + (if n ≤ k then f n * g (k - n) else 0) ∧ sumN n _ + (if n ≤ k then f n * g (k - n) else 0) ≤ _
      split <;> omega
  have h1 := hs i
  have hb := term_bound (hf i).1 (hf i).2 (hg (k - i)).1 (hg (k - i)).2
  unfold prt
  split <;> omega

/-- What a step of a division has done behind j columns. -/
def dpart (p q : Int) (b : List Int) (i j : Nat) (r : PS) : PS := fun n => if i ≤ n ∧ n < i + j then (r n - q * cf b (n - i)) % p else r n
theorem dpart_zero (p q : Int) (b : List Int) (i : Nat) (r : PS) : dpart p q b i 0 r = r := by
  funext n; unfold dpart; rw [if_neg (by omega)]
theorem dpart_step (p q : Int) (b : List Int) (i j : Nat) (r : PS) (n : Nat) : dpart p q b i (j + 1) r n = if n = i + j then (r n - q * cf b j) % p else dpart p q b i j r n := by
  unfold dpart
  by_cases h : n = i + j
  · rw [if_pos h, if_pos (by omega), h, show i + j - i = j by omega]
  · rw [if_neg h]
    by_cases h2 : i ≤ n ∧ n < i + j
    · rw [if_pos h2, if_pos (by omega)]
    · rw [if_neg h2, if_neg (by omega)]
theorem dpart_at (p q : Int) (b : List Int) (i j : Nat) (r : PS) : dpart p q b i j r (i + j) = r (i + j) := by
  unfold dpart; rw [if_neg (by omega)]
theorem dpart_all (p inv : Int) (b : List Int) (i : Nat) (r : PS) : dpart p (r (i + (b.length - 1)) * inv % p) b i b.length r = dstep p inv b i r := rfl
theorem dpart_In {p q : Int} (hp : 0 < p) {b : List Int} {i j : Nat} {r : PS} (h : In p r) : In p (dpart p q b i j r) := fun n => by
  unfold dpart; split
  · exact ⟨Int.emod_nonneg _ (by omega), Int.emod_lt_of_pos _ hp⟩
  · exact h n
theorem dstep_skip {p inv : Int} {b : List Int} {i : Nat} {r : PS} (h : In p r) (hq : r (i + (b.length - 1)) * inv % p = 0) : dstep p inv b i r = r := by
  funext n; unfold dstep; split
  · rw [hq, Int.zero_mul, Int.sub_zero, Int.emod_eq_of_lt (h n).1 (h n).2]
  · rfl
theorem mulmod_bound {p x y : Int} (hp : 0 < p) : 0 ≤ x * y % p ∧ x * y % p < p := ⟨Int.emod_nonneg _ (by omega), Int.emod_lt_of_pos _ hp⟩

/-- The inverse is the only number. -/
theorem invp_only {p x k : Int} (hp : Pr p) (h0 : 0 < x) (h1 : x < p) (hk0 : 0 ≤ k) (hk1 : k < p) : k * x % p = 1 ↔ k = invp p x := by
  obtain ⟨X, rfl⟩ := Int.eq_ofNat_of_zero_le (show 0 ≤ x by omega)
  obtain ⟨K, rfl⟩ := Int.eq_ofNat_of_zero_le hk0
  rcases hp with rfl | rfl | rfl | rfl
  · have key : ∀ X K : Fin 2, 0 < X.val → ((K.val : Int) * X.val % 2 = 1 ↔ (K.val : Int) = invp 2 X.val) := by decide
    exact key ⟨X, by omega⟩ ⟨K, by omega⟩ (by simp; omega)
  · have key : ∀ X K : Fin 3, 0 < X.val → ((K.val : Int) * X.val % 3 = 1 ↔ (K.val : Int) = invp 3 X.val) := by decide
    exact key ⟨X, by omega⟩ ⟨K, by omega⟩ (by simp; omega)
  · have key : ∀ X K : Fin 5, 0 < X.val → ((K.val : Int) * X.val % 5 = 1 ↔ (K.val : Int) = invp 5 X.val) := by decide
    exact key ⟨X, by omega⟩ ⟨K, by omega⟩ (by simp; omega)
  · have key : ∀ X K : Fin 7, 0 < X.val → ((K.val : Int) * X.val % 7 = 1 ↔ (K.val : Int) = invp 7 X.val) := by decide
    exact key ⟨X, by omega⟩ ⟨K, by omega⟩ (by simp; omega)
end Go.Proofs.Ytojkngdabejjdaa

/- The greatest common divisor with its factors, as the program reckons them; how long they are. No program in sight. -/
namespace Go.Proofs.Ytojkngdabejjdaa

/-- The loop: the rests with their factors. -/
def bzl (p : Int) : Nat → List Int → List Int → List Int → List Int → List Int → List Int → List Int × List Int × List Int
  | 0, a, _, u, _, v, _ => (a, u, v)
  | n + 1, a, b, u, x, v, y =>
    if b = [] then (a, u, v)
    else bzl p n b (divp p a b).2 x (addp p u (mulp p (divp p a b).1 x) (-1)) y (addp p v (mulp p (divp p a b).1 y) (-1))

def scl (p : Int) (a : List Int) (t : Int) : List Int := addp p [] a t
def bez (p : Int) (a b : List Int) : List Int × List Int × List Int :=
  let r := bzl p (b.length + 1) a b [1] [] [] [1]
  let i := invp p (cf r.1 (r.1.length - 1))
  (scl p r.1 i, scl p r.2.1 i, scl p r.2.2 i)

/-- How long a factor may be, beside the two rests. -/
structure BzI (B : Nat) (a b u x : List Int) : Prop where
  hu : u = [] ∨ u.length + b.length ≤ B + 1
  hx : x = [] ∨ (x.length ≤ 64 ∧ x.length + a.length ≤ B + 1)
  hl : u.length ≤ 64

theorem divp_rest_le (p : Int) (a b : List Int) : (divp p a b).2.length ≤ a.length := mkp_length _ _
theorem divp_quot_le (p : Int) (a b : List Int) : (divp p a b).1.length ≤ a.length - (b.length - 1) := mkp_length _ _

theorem mulp_len {p : Int} (hp : Pr p) {a b : List Int} (ha : Po p a) (hb : Po p b) : mulp p a b = [] ∨ (a ≠ [] ∧ b ≠ [] ∧ (mulp p a b).length + 1 = a.length + b.length) := by
  by_cases h1 : a = []
  · left; rw [h1, mulp_nil]
  · by_cases h2 : b = []
    · left; rw [h2, mulp_nil_right]
    · right; exact ⟨h1, h2, mulp_length hp ha hb h1 h2⟩

theorem BzI.step {p : Int} (hp : Pr p) {B : Nat} (hB : B ≤ 64) {a b u x : List Int} (hpa : Po p a) (hpb : Po p b) (hpx : Po p x) (hb : b ≠ []) (h : BzI B a b u x) :
    BzI B b (divp p a b).2 x (addp p u (mulp p (divp p a b).1 x) (-1)) := by
  have hlb : 0 < b.length := List.length_pos_iff.2 hb
  have hq := (divp_spec hp hpa hpb hb).1
  have hql := divp_quot_le p a b
  have hrl := divp_rest_le p a b
  have hal := addp_length p u (mulp p (divp p a b).1 x) (-1)
  refine ⟨?_, ?_, ?_⟩
  · rcases h.hx with h1 | ⟨_, h1⟩
    · left; exact h1
    · right; omega
  · have hqx : (mulp p (divp p a b).1 x).length + b.length ≤ B + 1 ∨ mulp p (divp p a b).1 x = [] := by
      rcases mulp_len hp hq hpx with h1 | ⟨h1, h2, h3⟩
      · right; exact h1
      · left
        have hq0 : 0 < (divp p a b).1.length := List.length_pos_iff.2 h1
        rcases h.hx with h4 | ⟨_, h4⟩
        · exact absurd h4 h2
        · omega
    rcases hqx with h1 | h1
    · right
      rcases h.hu with h2 | h2
      · rw [h2] at hal ⊢
        simp only [List.length_nil] at hal
        omega
      · omega
    · rcases h.hu with h2 | h2
      · left
        rw [h1, h2] at hal ⊢
        exact List.length_eq_zero_iff.1 (by simpa using hal)
      · right
        rw [h1] at hal ⊢
        simp only [List.length_nil] at hal
        omega
  · rcases h.hx with h1 | ⟨h1, h2⟩
    · rw [h1]; simp
    · omega

theorem divp_Po {p : Int} (hp : Pr p) {a b : List Int} (ha : Po p a) (hb : Po p b) (hne : b ≠ []) : Po p (divp p a b).1 ∧ Po p (divp p a b).2 ∧ (divp p a b).2.length < b.length :=
  ⟨(divp_spec hp ha hb hne).1, (divp_spec hp ha hb hne).2.1, (divp_spec hp ha hb hne).2.2.1⟩

/-- What the loop keeps. -/
structure BzS (p : Int) (A B : Nat) (a b u x v y : List Int) : Prop where
  pa : Po p a
  pb : Po p b
  pu : Po p u
  px : Po p x
  pv : Po p v
  py : Po p y
  iu : BzI B a b u x
  iv : BzI A a b v y
  la : a.length ≤ 64
  lb : b.length ≤ 64
  ne : a ≠ [] ∨ b ≠ []
theorem BzS.step {p : Int} (hp : Pr p) {A B : Nat} (hA : A ≤ 64) (hB : B ≤ 64) {a b u x v y : List Int} (h : BzS p A B a b u x v y) (hb : b ≠ []) :
    BzS p A B b (divp p a b).2 x (addp p u (mulp p (divp p a b).1 x) (-1)) y (addp p v (mulp p (divp p a b).1 y) (-1)) := by
  have hp2 := hp.pos
  obtain ⟨h1, h2, h3⟩ := divp_Po hp h.pa h.pb hb
  exact ⟨h.pb, h2, h.px, addp_Po (by omega) _ _ _, h.py, addp_Po (by omega) _ _ _, h.iu.step hp hB h.pa h.pb h.px hb, h.iv.step hp hA h.pa h.pb h.py hb, h.lb,
    Nat.le_trans (divp_rest_le p a b) h.la, Or.inl hb⟩
/-- The products of the loop are within the limit of degrees. -/
theorem BzI.prod {p : Int} {B : Nat} (hB : B ≤ 64) {a b u x : List Int} (hb : b ≠ []) (h : BzI B a b u x) :
    (divp p a b).1 = [] ∨ x = [] ∨ (divp p a b).1.length + x.length ≤ 65 := by
  have hlb : 0 < b.length := List.length_pos_iff.2 hb
  have hql := divp_quot_le p a b
  by_cases h1 : (divp p a b).1 = []
  · left; exact h1
  · right
    have hq0 : 0 < (divp p a b).1.length := List.length_pos_iff.2 h1
    rcases h.hx with h2 | ⟨_, h2⟩
    · left; exact h2
    · right; omega

theorem one_Po {p : Int} (hp : 2 ≤ p) : Po p [1] :=
  ⟨Or.inr (by simp [cf]), fun i => by
    cases i with
    | zero => rw [cf_cons_zero]; omega
    | succ i => rw [cf_cons_succ, cf_nil]; omega⟩
theorem BzS.start {p : Int} (hp : Pr p) {a b : List Int} (ha : Po p a) (hb : Po p b) (la : a.length ≤ 64) (lb : b.length ≤ 64) (hne : a ≠ [] ∨ b ≠ []) :
    BzS p a.length b.length a b [1] [] [] [1] := by
  have hp2 := hp.pos
  refine ⟨ha, hb, one_Po hp2.1, Po_nil (by omega), Po_nil (by omega), one_Po hp2.1, ⟨Or.inr (by simp; omega), Or.inl rfl, by simp⟩, ?_, la, lb, hne⟩
  exact ⟨Or.inl rfl, Or.inr (by simp; omega), by simp⟩
end Go.Proofs.Ytojkngdabejjdaa

/- Congruence modulo a polynomial; rests of sums and products. No program in sight. -/
namespace Go.Proofs.Ytojkngdabejjdaa

/-- Congruent modulo p and m, with a factor of finitely many coefficients. -/
def Cg (p : Int) (m f g : PS) : Prop := ∃ (h : PS) (N : Nat), Fin0 h N ∧ Eqp p f (padd g (pmul h m))
theorem Fin0.le {f : PS} {n m : Nat} (h : Fin0 f n) (hl : n ≤ m) : Fin0 f m := fun i hi => h i (by omega)
theorem Fin0.padd {f g : PS} {n m : Nat} (hf : Fin0 f n) (hg : Fin0 g m) : Fin0 (padd f g) (max n m) := fun i hi => by
  show f i + g i = 0
  rw [hf i (by omega), hg i (by omega)]; rfl
theorem Fin0.psmul {f : PS} {n : Nat} (c : Int) (hf : Fin0 f n) : Fin0 (psmul c f) n := fun i hi => by
  show c * f i = 0
  rw [hf i hi, Int.mul_zero]
theorem Fin0.pmul {f g : PS} {n m : Nat} (hf : Fin0 f n) (hg : Fin0 g m) : Fin0 (pmul f g) (n + m) := fun i hi => hf.mul hg i (by omega)
theorem pzero_Fin0 : Fin0 pzero 0 := fun _ _ => rfl
theorem Cg.refl {p : Int} {m : PS} (f : PS) : Cg p m f f := ⟨pzero, 0, pzero_Fin0, by rw [pzero_mul]; exact Eqp.of_eq (by funext n; show f n = f n + 0; omega)⟩
theorem Cg.of_eqp {p : Int} {m f g : PS} (h : Eqp p f g) : Cg p m f g := ⟨pzero, 0, pzero_Fin0, by
  rw [pzero_mul]; exact h.trans (Eqp.of_eq (by funext n; show g n = g n + 0; omega))⟩
theorem Cg.symm {p : Int} {m f g : PS} (h : Cg p m f g) : Cg p m g f := by
  obtain ⟨k, N, hN, hk⟩ := h
  refine ⟨psmul (-1) k, N, hN.psmul _, ?_⟩
  rw [psmul_pmul]
  intro n
  have h1 : f n % p = (g n + pmul k m n) % p := hk n
  show g n % p = (f n + -1 * pmul k m n) % p
  have h2 := emod_add_congr (p := p) h1 (show (-1 * pmul k m n) % p = (-1 * pmul k m n) % p from rfl)
  rw [h2]; congr 1; omega
theorem Cg.trans {p : Int} {m f g k : PS} (h : Cg p m f g) (h2 : Cg p m g k) : Cg p m f k := by
  obtain ⟨x, N, hN, hx⟩ := h
  obtain ⟨y, M, hM, hy⟩ := h2
  refine ⟨padd x y, _, hN.padd hM, ?_⟩
  rw [padd_mul]
  intro n
  have h1 : f n % p = (g n + pmul x m n) % p := hx n
  have h2 : g n % p = (k n + pmul y m n) % p := hy n
  show f n % p = (k n + (pmul x m n + pmul y m n)) % p
  rw [h1, emod_add_congr h2 rfl]; congr 1; omega
theorem Cg.add {p : Int} {m f g f' g' : PS} (h : Cg p m f f') (k : Cg p m g g') : Cg p m (padd f g) (padd f' g') := by
  obtain ⟨x, N, hN, hx⟩ := h
  obtain ⟨y, M, hM, hy⟩ := k
  refine ⟨padd x y, _, hN.padd hM, (hx.add hy).trans (Eqp.of_eq ?_)⟩
  rw [padd_mul]
  funext n
  show f' n + pmul x m n + (g' n + pmul y m n) = f' n + g' n + (pmul x m n + pmul y m n)
  omega
theorem Cg.smul {p c : Int} {m f f' : PS} (h : Cg p m f f') : Cg p m (psmul c f) (psmul c f') := by
  obtain ⟨x, N, hN, hx⟩ := h
  refine ⟨psmul c x, N, hN.psmul _, hx.smul.trans (Eqp.of_eq ?_)⟩
  rw [psmul_pmul]
  funext n
  show c * (f' n + pmul x m n) = c * f' n + c * pmul x m n
  rw [Int.mul_add]
/-- A product: the one factor is a polynomial. -/
theorem Cg.mul_right {p : Int} {m f f' g : PS} {M : Nat} (hg : Fin0 g M) (h : Cg p m f f') : Cg p m (pmul f g) (pmul f' g) := by
  obtain ⟨x, N, hN, hx⟩ := h
  refine ⟨pmul x g, N + M, hN.pmul hg, (hx.mul (Eqp.refl g)).trans (Eqp.of_eq ?_)⟩
  rw [padd_mul, pmul_assoc, pmul_assoc, pmul_comm m g]
theorem Cg.mul {p : Int} {m f g f' g' : PS} {A B : Nat} (hg : Fin0 g A) (hf : Fin0 f' B) (h : Cg p m f f') (k : Cg p m g g') : Cg p m (pmul f g) (pmul f' g') := by
  refine (h.mul_right hg).trans ?_
  rw [pmul_comm f' g, pmul_comm f' g']
  exact k.mul_right hf

/-- The rest. -/
def rst (p : Int) (a m : List Int) : List Int := (divp p a m).2
theorem rst_cg {p : Int} (hp : Pr p) {a m : List Int} (ha : Po p a) (hm : Po p m) (hne : m ≠ []) : Cg p (cf m) (cf a) (cf (rst p a m)) := by
  obtain ⟨_, _, _, h⟩ := divp_spec hp ha hm hne
  exact ⟨cf (divp p a m).1, _, cf_Fin0 _, h.trans (Eqp.of_eq (padd_comm _ _))⟩
theorem rst_Po {p : Int} (hp : Pr p) {a m : List Int} (ha : Po p a) (hm : Po p m) (hne : m ≠ []) : Po p (rst p a m) := (divp_spec hp ha hm hne).2.1
theorem rst_lt {p : Int} (hp : Pr p) {a m : List Int} (ha : Po p a) (hm : Po p m) (hne : m ≠ []) : (rst p a m).length < m.length := (divp_spec hp ha hm hne).2.2.1

/-- A series of finitely many coefficients, as a polynomial. -/
def low (p : Int) (N : Nat) (f : PS) : List Int := mkp N (fun i => f i % p)
theorem low_Po {p : Int} (hp : 0 < p) (N : Nat) (f : PS) : Po p (low p N f) :=
  ⟨mkp_Tr _ _, fun i => by
    unfold low; rw [mkp_cf]; split
    · exact ⟨Int.emod_nonneg _ (by omega), Int.emod_lt_of_pos _ hp⟩
    · exact ⟨Int.le_refl _, hp⟩⟩
theorem low_eqp {p : Int} {N : Nat} {f : PS} (h : Fin0 f N) : Eqp p (cf (low p N f)) f := fun i => by
  unfold low; rw [mkp_cf]; split
  · exact Int.emod_emod_of_dvd _ (Int.dvd_refl p)
  · rw [h i (by omega)]

/-- Two short polynomials that are congruent are the same. -/
theorem cg_unique {p : Int} (hp : Pr p) {m r r' : List Int} (hm : Po p m) (hne : m ≠ []) (hr : Po p r) (hr' : Po p r') (hl : r.length < m.length) (hl' : r'.length < m.length)
    (h : Cg p (cf m) (cf r) (cf r')) : r = r' := by
  obtain ⟨k, N, hN, hk⟩ := h
  have hp2 := hp.pos
  have e : Eqp p (padd (pmul (cf []) (cf m)) (cf r)) (padd (pmul (cf (low p N k)) (cf m)) (cf r')) := by
    refine Eqp.trans (Eqp.of_eq ?_) (hk.trans ((Eqp.of_eq (padd_comm _ _)).trans (Eqp.add (Eqp.mul (low_eqp hN).symm (Eqp.refl _)) (Eqp.refl _))))
    have : cf ([] : List Int) = pzero := by funext n; exact cf_nil n
    rw [this, pzero_mul]; funext n; show 0 + cf r n = cf r n; omega
  exact (divp_unique hp hm hne ⟨(by exact (low_Po (p := p) (by omega) 0 pzero).1), fun i => by rw [cf_nil]; exact ⟨Int.le_refl _, by omega⟩⟩ hr (low_Po (by omega) N k) hr' hl hl' e).2
/-- The rest of what is congruent. -/
theorem rst_of_cg {p : Int} (hp : Pr p) {a m r : List Int} (ha : Po p a) (hm : Po p m) (hne : m ≠ []) (hr : Po p r) (hl : r.length < m.length) (h : Cg p (cf m) (cf a) (cf r)) : rst p a m = r :=
  cg_unique hp hm hne (rst_Po hp ha hm hne) hr (rst_lt hp ha hm hne) hl ((rst_cg hp ha hm hne).symm.trans h)
theorem rst_congr {p : Int} (hp : Pr p) {a b m : List Int} (ha : Po p a) (hb : Po p b) (hm : Po p m) (hne : m ≠ []) (h : Cg p (cf m) (cf a) (cf b)) : rst p a m = rst p b m :=
  rst_of_cg hp ha hm hne (rst_Po hp hb hm hne) (rst_lt hp hb hm hne) (h.trans (rst_cg hp hb hm hne))
/-- The product modulo m. -/
def mulmod (p : Int) (a b m : List Int) : List Int := rst p (mulp p a b) m
theorem mulmod_cg {p : Int} (hp : Pr p) {a b m : List Int} (hm : Po p m) (hne : m ≠ []) : Cg p (cf m) (cf (mulmod p a b m)) (pmul (cf a) (cf b)) := by
  have hp2 := hp.pos
  exact (rst_cg hp (mulp_Po (by omega) a b) hm hne).symm.trans (Cg.of_eqp (mulp_eqp p a b))
end Go.Proofs.Ytojkngdabejjdaa

/- A polynomial put in the place of T: its length, and what it is for a number. No program in sight. -/
namespace Go.Proofs.Ytojkngdabejjdaa

theorem mkp_of_Tr {n : Nat} {xs : List Int} (h : Tr xs) (hl : xs.length ≤ n) : mkp n (cf xs) = xs :=
  mkp_eq h fun i => by
    split
    · rfl
    · rw [cf_ge xs i (by omega)]
theorem Tr_tail {c : Int} {tl : List Int} (h : Tr (c :: tl)) : Tr tl := by
  by_cases e : tl.length = 0
  · exact .inl e
  · right
    rcases h with h | h
    · simp at h
    · rw [List.length_cons, Nat.add_sub_cancel] at h
      obtain ⟨n, hn⟩ : ∃ n, tl.length = n + 1 := ⟨tl.length - 1, by omega⟩
      rw [hn] at h ⊢
      rw [cf_cons_succ] at h
      exact h
theorem Po_tail {p c : Int} {tl : List Int} (h : Po p (c :: tl)) : Po p tl := ⟨Tr_tail h.tr, fun i => by have := h.md (i + 1); rwa [cf_cons_succ] at this⟩
theorem Po_drop {p : Int} (hp : 0 < p) {xs : List Int} (h : Po p xs) (n : Nat) : Po p (xs.drop n) := by
  induction n generalizing xs with
  | zero => exact h
  | succ n ih =>
    cases xs with
    | nil => exact Po_nil hp
    | cons c tl => exact ih (Po_tail h)

def cmpp (p : Int) (ys : List Int) : List Int → List Int
  | [] => []
  | c :: tl => addp p (mulp p (cmpp p ys tl) ys) [c] 1
theorem cmpp_Po {p : Int} (hp : 0 < p) (ys : List Int) : ∀ xs, Po p (cmpp p ys xs)
  | [] => Po_nil hp
  | _ :: _ => addp_Po hp _ _ _
theorem drop_cons (xs : List Int) (i : Nat) (h : i < xs.length) : xs.drop i = cf xs i :: xs.drop (i + 1) := by
  rw [List.drop_eq_getElem_cons h, cf_lt xs i h]
theorem cmpp_drop (p : Int) (ys xs : List Int) (i : Nat) (h : i < xs.length) : cmpp p ys (xs.drop i) = addp p (mulp p (cmpp p ys (xs.drop (i + 1))) ys) [cf xs i] 1 := by
  rw [drop_cons xs i h]; rfl
theorem cmpp_length {p : Int} (hp : Pr p) {ys : List Int} (hy : Po p ys) (h2 : 2 ≤ ys.length) : ∀ xs, Po p xs → xs ≠ [] → (cmpp p ys xs).length = (xs.length - 1) * (ys.length - 1) + 1
  | [], _, h => absurd rfl h
  | c :: tl, hx, _ => by
    have hp2 := hp.pos
    have hyn : ys ≠ [] := fun e => by rw [e] at h2; simp at h2
    have hPo := cmpp_Po (p := p) (by omega) ys (c :: tl)
    by_cases e : tl = []
    · subst e
      have hc : cf [c] 0 ≠ 0 := by rcases hx.tr with h | h; (· simp at h); exact h
      have hc1 := hx.md 0
      rw [cf_cons_zero] at hc hc1
      have e1 : cmpp p ys [c] = addp p (mulp p [] ys) [c] 1 := rfl
      have h1 : cf (cmpp p ys [c]) 0 ≠ 0 := by
        rw [e1, addp_cf, mulp_nil, cf_nil, cf_cons_zero, Int.emod_eq_of_lt (by omega) (by omega)]; omega
      have h3 : (cmpp p ys [c]).length ≤ 1 := by
        rw [e1, mulp_nil]; have := addp_length p [] [c] 1; simpa using this
      simp only [List.length_cons, List.length_nil, Nat.zero_add, Nat.sub_self, Nat.zero_mul]
      by_cases h4 : (cmpp p ys [c]).length = 0
      · exact absurd (cf_ge _ 0 (by omega)) h1
      · omega
    · have ih := cmpp_length hp hy h2 tl (Po_tail hx) e
      have hl : 0 < tl.length := List.length_pos_iff.2 e
      have hne : cmpp p ys tl ≠ [] := fun h => by rw [h] at ih; simp at ih
      have hm := mulp_length hp (cmpp_Po (p := p) (by omega) ys tl) hy hne hyn
      have hmP := mulp_Po (p := p) (by omega) (cmpp p ys tl) ys
      have e1 : cmpp p ys (c :: tl) = addp p (mulp p (cmpp p ys tl) ys) [c] 1 := rfl
      have hle := addp_length p (mulp p (cmpp p ys tl) ys) [c] 1
      have hge : ¬ (cmpp p ys (c :: tl)).length ≤ (mulp p (cmpp p ys tl) ys).length - 1 := fun hh => by
        have h0 := cf_ge _ _ hh
        rw [e1, addp_cf, cf_ge [c] _ (by simp; omega)] at h0
        have h5 := hmP.lead_len (by omega)
        have h6 := hmP.md ((mulp p (cmpp p ys tl) ys).length - 1)
        rw [Int.mul_zero, Int.add_zero, Int.emod_eq_of_lt h6.1 h6.2] at h0
        omega
      rw [← e1] at hle
      have e3 : max (mulp p (cmpp p ys tl) ys).length [c].length = (mulp p (cmpp p ys tl) ys).length := by
        rw [Nat.max_def]; split <;> simp_all <;> omega
      rw [e3] at hle
      have e4 : (c :: tl).length - 1 = (tl.length - 1) + 1 := by simp; omega
      rw [e4, Nat.add_mul, Nat.one_mul]
      omega
/-- A number as a polynomial. -/
theorem one_cf (c : Int) (i : Nat) : cf [c] i = if i = 0 then c else 0 := by
  cases i with
  | zero => rw [cf_cons_zero, if_pos rfl]
  | succ i => rw [cf_cons_succ, cf_nil, if_neg (by omega)]
theorem trim_one_cf (c : Int) (i : Nat) : cf (trim [c]) i = if i = 0 then c else 0 := by rw [trim_cf, one_cf]
theorem pmul_one_left {f g : PS} (hf : ∀ i, 0 < i → f i = 0) (n : Nat) : pmul f g n = f 0 * g n := by
  show sumN (n + 1) (fun i => f i * g (n - i)) = _
  rw [sumN_single (k := 0) (by omega) fun i _ hne => by rw [hf i (by omega), Int.zero_mul]]; rfl
theorem mulp_one_cf (p u : Int) {a : List Int} (ha : ∀ i, cf a i = if i = 0 then u else 0) (b : List Int) (n : Nat) : cf (mulp p a b) n = u * cf b n % p := by
  rw [mulp_cf, pmul_one_left (fun i hi => by rw [ha i, if_neg (by omega)]), ha 0, if_pos rfl]
theorem short_cf {ys : List Int} (h : ys.length ≤ 1) (i : Nat) : cf ys i = if i = 0 then cf ys 0 else 0 := by
  by_cases e : i = 0
  · rw [if_pos e, e]
  · rw [if_neg e, cf_ge ys i (by omega)]
def evl (p x : Int) : List Int → Int
  | [] => 0
  | a :: tl => (evl p x tl * x + a) % p
theorem cmpp_short {p : Int} (hp : Pr p) {ys : List Int} (h : ys.length ≤ 1) : ∀ (xs : List Int) (i : Nat), cf (cmpp p ys xs) i = if i = 0 then evl p (cf ys 0) xs else 0
  | [], i => by show cf [] i = if i = 0 then 0 else 0; rw [cf_nil]; split <;> rfl
  | c :: tl, i => by
    have e1 : cmpp p ys (c :: tl) = addp p (mulp p (cmpp p ys tl) ys) [c] 1 := rfl
    rw [e1, addp_cf, mulp_one_cf p _ (cmpp_short hp h tl), one_cf, short_cf h i]
    by_cases e : i = 0
    · rw [if_pos e, if_pos e, if_pos e, Int.emod_add_emod, Int.one_mul]; rfl
    · rw [if_neg e, if_neg e, if_neg e]; simp
end Go.Proofs.Ytojkngdabejjdaa

/- Powers modulo a polynomial, products modulo it summed up from the top, powers of numbers. No program in sight. -/
namespace Go.Proofs.Ytojkngdabejjdaa

/-- Squaring and multiplying. -/
def pwl (p : Int) (m : List Int) (k : Nat) (out base : List Int) : List Int :=
  if h : k = 0 then out else pwl p m (k / 2) (if k % 2 = 1 then mulmod p out base m else out) (mulmod p base base m)
termination_by k
decreasing_by omega
theorem pwl_zero (p : Int) (m out base : List Int) : pwl p m 0 out base = out := by rw [pwl, dif_pos rfl]
theorem pwl_step (p : Int) (m out base : List Int) {k : Nat} (h : k ≠ 0) : pwl p m k out base = pwl p m (k / 2) (if k % 2 = 1 then mulmod p out base m else out) (mulmod p base base m) := by
  rw [pwl, dif_neg h]
def powp (p : Int) (a : List Int) (k : Nat) (m : List Int) : List Int := pwl p m k (rst p [1] m) (rst p a m)

theorem mulmod_Po {p : Int} (hp : Pr p) {a b m : List Int} (hm : Po p m) (hne : m ≠ []) : Po p (mulmod p a b m) := by
  have hp2 := hp.pos
  exact rst_Po hp (mulp_Po (by omega) a b) hm hne
theorem mulmod_lt {p : Int} (hp : Pr p) {a b m : List Int} (hm : Po p m) (hne : m ≠ []) : (mulmod p a b m).length < m.length := by
  have hp2 := hp.pos
  exact rst_lt hp (mulp_Po (by omega) a b) hm hne

theorem letter_cf : cf [0, 1] = mono 1 1 := by
  funext n
  unfold mono
  rcases n with _ | _ | n
  · rfl
  · rfl
  · rw [cf_cons_succ, cf_cons_succ, cf_nil, if_neg (by omega)]
theorem letter_Po {p : Int} (hp : 2 ≤ p) : Po p [0, 1] := by
  refine ⟨.inr (by decide), fun i => ?_⟩
  rw [letter_cf]; unfold mono; split <;> omega
/-- T times a rest. -/
theorem up_eq {p : Int} (hp : Pr p) {a m : List Int} (hm : Po p m) (h2 : 2 ≤ m.length) (hl : a.length < m.length) :
    mkp (m.length - 1) (fun i => ((if i = 0 then 0 else cf a (i - 1)) - cf a (m.length - 2) * invp p (cf m (m.length - 1)) % p * cf m i) % p) = mulmod p [0, 1] a m := by
  have hp2 := hp.pos
  have hne : m ≠ [] := fun e => by rw [e] at h2; simp at h2
  have hinv := invp_spec hp (hm.lead hne) (hm.md _).2
  have hr := mkp_length (m.length - 1) (fun i => ((if i = 0 then 0 else cf a (i - 1)) - cf a (m.length - 2) * invp p (cf m (m.length - 1)) % p * cf m i) % p)
  symm
  refine rst_of_cg hp (mulp_Po (by omega) _ _) hm hne ⟨mkp_Tr _ _, Md_mkp (by omega) fun i _ => ⟨Int.emod_nonneg _ (by omega), Int.emod_lt_of_pos _ (by omega)⟩⟩ (by omega) ?_
  refine ⟨mono (cf a (m.length - 2) * invp p (cf m (m.length - 1)) % p) 0, 1, fun i hi => if_neg (by omega), (mulp_eqp p _ _).trans fun n => ?_⟩
  rw [letter_cf, mono_mul]
  show _ = (cf (mkp _ _) n + pmul _ _ n) % p
  rw [mono_mul, mkp_cf, if_pos (Nat.zero_le n), Nat.sub_zero]
  by_cases h : n < m.length - 1
  · rw [if_pos h, Int.emod_add_emod]
    congr 1
    by_cases e : n = 0
    · rw [if_pos e, if_neg (by omega)]; omega
    · rw [if_neg e, if_pos (by omega)]; omega
  · rw [if_neg h, if_pos (by omega)]
    by_cases e : n = m.length - 1
    · have h3 := top_gone (p := p) (x := cf a (m.length - 2)) hinv.2.2
      rw [e, show m.length - 1 - 1 = m.length - 2 by omega]
      have := Int.emod_eq_emod_iff_emod_sub_eq_zero.2 h3
      rw [Int.one_mul, Int.zero_add]; exact this
    · rw [cf_ge a _ (by omega), cf_ge m n (by omega)]; simp
theorem up_one {p : Int} (hp : Pr p) {a m : List Int} (hm : Po p m) (h1 : m.length = 1) : mulmod p [0, 1] a m = [] := by
  have := mulmod_lt hp (a := [0, 1]) (b := a) hm (fun e => by rw [e] at h1; simp at h1)
  exact List.length_eq_zero_iff.1 (by omega)

/-- The product modulo m from the top. -/
def hrn (p : Int) (a m : List Int) : List Int → List Int
  | [] => []
  | c :: tl => rst p (addp p (mulmod p [0, 1] (hrn p a m tl) m) a c) m
theorem hrn_Po {p : Int} (hp : Pr p) {a m : List Int} (hm : Po p m) (hne : m ≠ []) : ∀ b, Po p (hrn p a m b) ∧ (hrn p a m b).length < m.length
  | [] => by have := hp.pos; exact ⟨Po_nil (by omega), List.length_pos_iff.2 hne⟩
  | c :: tl => by
    have hp2 := hp.pos
    have h := addp_Po (p := p) (by omega) (mulmod p [0, 1] (hrn p a m tl) m) a c
    exact ⟨rst_Po hp h hm hne, rst_lt hp h hm hne⟩
theorem cons_cf (c : Int) (tl : List Int) : cf (c :: tl) = padd (psmul c pone) (pmul (mono 1 1) (cf tl)) := by
  funext n
  show _ = c * pone n + pmul _ _ n
  rw [mono_mul]
  unfold pone
  cases n with
  | zero => rw [cf_cons_zero]; simp
  | succ n => rw [cf_cons_succ]; simp
theorem hrn_cg {p : Int} (hp : Pr p) {a m : List Int} (hm : Po p m) (hne : m ≠ []) : ∀ b, Cg p (cf m) (cf (hrn p a m b)) (pmul (cf a) (cf b))
  | [] => by
    show Cg p (cf m) (cf []) (pmul (cf a) (cf []))
    have e : cf ([] : List Int) = pzero := by funext n; exact cf_nil n
    rw [e, pmul_comm, pzero_mul]; exact Cg.refl _
  | c :: tl => by
    have hp2 := hp.pos
    have ih := hrn_cg hp hm hne (a := a) tl
    refine (rst_cg hp (addp_Po (by omega) _ _ _) hm hne).symm.trans ((Cg.of_eqp (addp_eqp p _ a c)).trans ?_)
    rw [cons_cf, pmul_add, pmul_psmul, pmul_one, padd_comm]
    refine Cg.add (Cg.refl _) ((mulmod_cg hp hm hne).trans ?_)
    rw [letter_cf, ← pmul_assoc, pmul_comm (cf a), pmul_assoc, pmul_comm (mono 1 1), pmul_comm (mono 1 1)]
    exact ih.mul_right (M := 2) fun i hi => if_neg (by omega)
theorem hrn_eq {p : Int} (hp : Pr p) {a m : List Int} (hm : Po p m) (hne : m ≠ []) (b : List Int) : hrn p a m b = mulmod p a b m := by
  obtain ⟨h1, h2⟩ := hrn_Po (a := a) hp hm hne b
  exact cg_unique hp hm hne h1 (mulmod_Po hp hm hne) h2 (mulmod_lt hp hm hne) ((hrn_cg hp hm hne b).trans (mulmod_cg hp hm hne).symm)
theorem hrn_drop (p : Int) (a m b : List Int) (i : Nat) (h : i < b.length) : hrn p a m (b.drop i) = rst p (addp p (mulmod p [0, 1] (hrn p a m (b.drop (i + 1))) m) a (cf b i)) m := by
  rw [drop_cons b i h]; rfl
theorem pwl_Po {p : Int} (hp : Pr p) {m : List Int} (hm : Po p m) (hne : m ≠ []) (k : Nat) : ∀ out base, Po p out → out.length < m.length → Po p base → base.length < m.length → Po p (pwl p m k out base) ∧ (pwl p m k out base).length < m.length := by
  induction k using Nat.strongRecOn with
  | ind k ih =>
    intro out base h1 h2 h3 h4
    by_cases e : k = 0
    · subst e; rw [pwl_zero]; exact ⟨h1, h2⟩
    · rw [pwl_step _ _ _ _ e]
      refine ih (k / 2) (by omega) _ _ ?_ ?_ (mulmod_Po hp hm hne) (mulmod_lt hp hm hne)
      · split
        · exact mulmod_Po hp hm hne
        · exact h1
      · split
        · exact mulmod_lt hp hm hne
        · exact h2
end Go.Proofs.Ytojkngdabejjdaa

/- Powers of numbers and of polynomials without a modulus. No program in sight. -/
namespace Go.Proofs.Ytojkngdabejjdaa

def ipw (v : Int) : Nat → Int
  | 0 => 1
  | n + 1 => ipw v n * v
theorem ipw_add (v : Int) (n : Nat) : ∀ m, ipw v (n + m) = ipw v n * ipw v m
  | 0 => by show ipw v n = ipw v n * 1; omega
  | m + 1 => by show ipw v (n + m) * v = ipw v n * (ipw v m * v); rw [ipw_add v n m, Int.mul_assoc]
theorem ipw_sq (v : Int) : ∀ n, ipw (v * v) n = ipw v (2 * n)
  | 0 => rfl
  | n + 1 => by
    show ipw (v * v) n * (v * v) = ipw v (2 * n) * v * v
    rw [ipw_sq v n, Int.mul_assoc]
theorem ipw_emod (p v : Int) : ∀ n, ipw (v % p) n % p = ipw v n % p
  | 0 => rfl
  | n + 1 => by
    show ipw (v % p) n * (v % p) % p = ipw v n * v % p
    rw [Int.mul_emod, ipw_emod p v n, Int.emod_emod_of_dvd _ (Int.dvd_refl p), ← Int.mul_emod]
theorem powm_ipw {p : Int} (hp : 2 ≤ p) (v : Int) : ∀ n, powm p v n = ipw v n % p
  | 0 => by show (1 : Int) = 1 % p; rw [Int.emod_eq_of_lt (by omega) (by omega)]
  | n + 1 => by
    show powm p v n * v % p = ipw v n * v % p
    rw [powm_ipw hp v n, Int.mul_emod, Int.emod_emod_of_dvd _ (Int.dvd_refl p), ← Int.mul_emod]

theorem rst_short {p : Int} (hp : Pr p) {a m : List Int} (ha : Po p a) (hm : Po p m) (hl : a.length < m.length) : rst p a m = a :=
  rst_of_cg hp ha hm (fun e => by rw [e] at hl; simp at hl) ha hl (Cg.refl _)
theorem mulp_consts {p u v : Int} {a b : List Int} (ha : ∀ i, cf a i = if i = 0 then u else 0) (hb : ∀ i, cf b i = if i = 0 then v else 0) (i : Nat) : cf (mulp p a b) i = if i = 0 then u * v % p else 0 := by
  rw [mulp_one_cf p u ha, hb i]
  split
  · rfl
  · simp
theorem const_len {a : List Int} {u : Int} (ht : Tr a) (ha : ∀ i, cf a i = if i = 0 then u else 0) : a.length ≤ 1 :=
  Tr_length_le ht fun i hi => by rw [ha i, if_neg (by omega)]
theorem mulmod_consts {p u v : Int} (hp : Pr p) {a b : List Int} (ha : ∀ i, cf a i = if i = 0 then u else 0) (hb : ∀ i, cf b i = if i = 0 then v else 0) (i : Nat) : cf (mulmod p a b [0, 1]) i = if i = 0 then u * v % p else 0 := by
  have hp2 := hp.pos
  have hm := mulp_Po (p := p) (by omega) a b
  unfold mulmod
  rw [rst_short hp hm (letter_Po hp2.1) (by have := const_len hm.tr (mulp_consts (p := p) ha hb); simp; omega)]
  exact mulp_consts ha hb i
theorem pwl_consts {p : Int} (hp : Pr p) (k : Nat) : ∀ (u v : Int) (out base : List Int), (∀ i, cf out i = if i = 0 then u % p else 0) → (∀ i, cf base i = if i = 0 then v else 0) → ∀ i, cf (pwl p [0, 1] k out base) i = if i = 0 then u * ipw v k % p else 0 := by
  induction k using Nat.strongRecOn with
  | ind k ih =>
    intro u v out base ho hb i
    by_cases e : k = 0
    · subst e; rw [pwl_zero, ho i]
      show _ = if i = 0 then u * 1 % p else 0
      rw [Int.mul_one]
    · rw [pwl_step _ _ _ _ e]
      have hbb := mulmod_consts hp hb hb
      have key : ipw (v * v % p) (k / 2) % p = ipw v (2 * (k / 2)) % p := by rw [ipw_emod, ipw_sq]
      by_cases h2 : k % 2 = 1
      · rw [if_pos h2]
        have ho2 : ∀ i, cf (mulmod p out base [0, 1]) i = if i = 0 then (u * v) % p else 0 := fun i => by
          rw [mulmod_consts hp ho hb i]; split
          · rw [Int.mul_emod, Int.emod_emod_of_dvd _ (Int.dvd_refl p), ← Int.mul_emod]
          · rfl
        rw [ih (k / 2) (by omega) (u * v) _ _ _ ho2 hbb i]
        split
        · rw [Int.mul_emod, key, ← Int.mul_emod, Int.mul_assoc]
          have : k = 2 * (k / 2) + 1 := by omega
          have h3 : ipw v k = ipw v (2 * (k / 2)) * v := by rw [this, show (2 * (k / 2) + 1) / 2 = k / 2 by omega]; rfl
          rw [h3, Int.mul_comm v]
        · rfl
      · rw [if_neg h2, ih (k / 2) (by omega) u _ _ _ ho hbb i]
        split
        · rw [Int.mul_emod, key, ← Int.mul_emod, show 2 * (k / 2) = k by omega]
        · rfl
/-- The power of a number, modulo T. -/
theorem powp_const {p : Int} (hp : Pr p) {r : List Int} (hr : Po p r) (hl : r.length ≤ 1) (k : Nat) (i : Nat) : cf (powp p r k [0, 1]) i = if i = 0 then powm p (cf r 0) k else 0 := by
  have hp2 := hp.pos
  unfold powp
  rw [rst_short hp (one_Po hp2.1) (letter_Po hp2.1) (by simp), rst_short hp hr (letter_Po hp2.1) (by simp; omega),
    pwl_consts hp k 1 (cf r 0) [1] r (fun i => by rw [one_cf, Int.emod_eq_of_lt (by omega) (by omega)]) (short_cf hl) i, Int.one_mul, powm_ipw hp2.1]
theorem powm_add {p : Int} (hp : 2 ≤ p) (x : Int) (n m : Nat) : powm p x (n + m) = powm p x n * powm p x m % p := by
  rw [powm_ipw hp, powm_ipw hp, powm_ipw hp, ipw_add, ← Int.mul_emod]
theorem fermat {p x : Int} (hp : Pr p) (h0 : 0 < x) (h1 : x < p) : powm p x (p - 1).toNat = 1 := by
  obtain ⟨X, rfl⟩ := Int.eq_ofNat_of_zero_le (show 0 ≤ x by omega)
  rcases hp with rfl | rfl | rfl | rfl
  · have key : ∀ X : Fin 2, 0 < X.val → powm 2 X.val 1 = 1 := by decide
    exact key ⟨X, by omega⟩ (by simp; omega)
  · have key : ∀ X : Fin 3, 0 < X.val → powm 3 X.val 2 = 1 := by decide
    exact key ⟨X, by omega⟩ (by simp; omega)
  · have key : ∀ X : Fin 5, 0 < X.val → powm 5 X.val 4 = 1 := by decide
    exact key ⟨X, by omega⟩ (by simp; omega)
  · have key : ∀ X : Fin 7, 0 < X.val → powm 7 X.val 6 = 1 := by decide
    exact key ⟨X, by omega⟩ (by simp; omega)
theorem powm_lt {p : Int} (hp : 2 ≤ p) (x : Int) : ∀ n, 0 ≤ powm p x n ∧ powm p x n < p
  | 0 => by show (0 : Int) ≤ 1 ∧ (1 : Int) < p; omega
  | n + 1 => ⟨Int.emod_nonneg _ (by omega), Int.emod_lt_of_pos _ (by omega)⟩
theorem powm_period {p x : Int} (hp : Pr p) (h0 : 0 < x) (h1 : x < p) (r : Nat) : ∀ q, powm p x (r + q * (p - 1).toNat) = powm p x r
  | 0 => by rw [Nat.zero_mul, Nat.add_zero]
  | q + 1 => by
    have hp2 := hp.pos
    rw [Nat.add_mul, Nat.one_mul, ← Nat.add_assoc, powm_add hp2.1, powm_period hp h0 h1 r q, fermat hp h0 h1, Int.mul_one]
    have := powm_lt hp2.1 x r
    exact Int.emod_eq_of_lt this.1 this.2
theorem powm_mod {p x : Int} (hp : Pr p) (h0 : 0 < x) (h1 : x < p) (k : Nat) : powm p x k = powm p x (k % (p - 1).toNat) := by
  have := powm_period hp h0 h1 (k % (p - 1).toNat) (k / (p - 1).toNat)
  rw [Nat.mod_add_div'] at this
  exact this
theorem powm_zero {p : Int} : ∀ {k : Nat}, k ≠ 0 → powm p 0 k = 0
  | 0, h => absurd rfl h
  | k + 1, _ => by show powm p 0 k * 0 % p = 0; simp

/-- The product of k factors. -/
def rpw (p : Int) (r : List Int) : Nat → List Int
  | 0 => [1]
  | n + 1 => mulp p (rpw p r n) r
theorem rpw_Po {p : Int} (hp : 2 ≤ p) (r : List Int) : ∀ n, Po p (rpw p r n)
  | 0 => one_Po hp
  | n + 1 => mulp_Po (by omega) _ _
theorem rpw_length {p : Int} (hp : Pr p) {r : List Int} (hr : Po p r) (hl : 1 ≤ r.length) : ∀ n, (rpw p r n).length = (r.length - 1) * n + 1
  | 0 => by show 1 = _; simp
  | n + 1 => by
    have hp2 := hp.pos
    have ih := rpw_length hp hr hl n
    have hm := mulp_length hp (rpw_Po hp2.1 r n) hr (fun e => by rw [e] at ih; simp at ih) (fun e => by rw [e] at hl; simp at hl)
    show (mulp p (rpw p r n) r).length = _
    rw [Nat.mul_add, Nat.mul_one]
    omega
end Go.Proofs.Ytojkngdabejjdaa

/- Identities of sequences with sums and products, by a normal form that is reckoned. No program in sight. -/
namespace Go.Proofs.Ytojkngdabejjdaa

/-- Expressions in variables. -/
inductive RE where
  | v (n : Nat)
  | one
  | k (c : Int)
  | add (a b : RE)
  | mul (a b : RE)
  | neg (a : RE)
instance : Add RE := ⟨RE.add⟩
instance : Mul RE := ⟨RE.mul⟩
instance : Neg RE := ⟨RE.neg⟩
instance : Sub RE := ⟨fun a b => RE.add a (RE.neg b)⟩

def RE.den (e : Nat → PS) : RE → PS
  | .v n => e n
  | .one => pone
  | .k c => psmul c pone
  | .add a b => padd (a.den e) (b.den e)
  | .mul a b => pmul (a.den e) (b.den e)
  | .neg a => psmul (-1) (a.den e)

def dmono (e : Nat → PS) : List Nat → PS
  | [] => pone
  | x :: xs => pmul (e x) (dmono e xs)
def dpoly (e : Nat → PS) : List (List Nat × Int) → PS
  | [] => pzero
  | t :: ts => padd (psmul t.2 (dmono e t.1)) (dpoly e ts)

def insV (x : Nat) : List Nat → List Nat
  | [] => [x]
  | y :: ys => if x ≤ y then x :: y :: ys else y :: insV x ys
def mulM (a b : List Nat) : List Nat := a.foldr insV b
def ltM : List Nat → List Nat → Bool
  | [], [] => false
  | [], _ :: _ => true
  | _ :: _, [] => false
  | x :: xs, y :: ys => if x < y then true else if y < x then false else ltM xs ys
def insT (m : List Nat) (c : Int) : List (List Nat × Int) → List (List Nat × Int)
  | [] => if c = 0 then [] else [(m, c)]
  | t :: ts => if m = t.1 then (if c + t.2 = 0 then ts else (m, c + t.2) :: ts) else if ltM m t.1 then (if c = 0 then t :: ts else (m, c) :: t :: ts) else t :: insT m c ts
def addT (a b : List (List Nat × Int)) : List (List Nat × Int) := a.foldr (fun t acc => insT t.1 t.2 acc) b
def sclT (m : List Nat) (c : Int) (a acc : List (List Nat × Int)) : List (List Nat × Int) := a.foldr (fun t acc => insT (mulM m t.1) (c * t.2) acc) acc
def mulT (a b : List (List Nat × Int)) : List (List Nat × Int) := a.foldr (fun t acc => sclT t.1 t.2 b acc) []
def RE.norm : RE → List (List Nat × Int)
  | .v n => [([n], 1)]
  | .one => [([], 1)]
  | .k c => if c = 0 then [] else [([], c)]
  | .add a b => addT a.norm b.norm
  | .mul a b => mulT a.norm b.norm
  | .neg a => sclT [] (-1) a.norm []

theorem psmul_one (f : PS) : psmul 1 f = f := by funext n; show 1 * f n = f n; omega
theorem psmul_zero (f : PS) : psmul 0 f = pzero := by funext n; show 0 * f n = 0; omega
theorem psmul_psmul (a b : Int) (f : PS) : psmul a (psmul b f) = psmul (a * b) f := by funext n; show a * (b * f n) = a * b * f n; rw [Int.mul_assoc]
theorem psmul_padd (a : Int) (f g : PS) : psmul a (padd f g) = padd (psmul a f) (psmul a g) := by funext n; show a * (f n + g n) = a * f n + a * g n; rw [Int.mul_add]
theorem psmul_pzero (a : Int) : psmul a pzero = pzero := by funext n; show a * 0 = 0; omega
theorem padd_psmul (a b : Int) (f : PS) : psmul (a + b) f = padd (psmul a f) (psmul b f) := by funext n; show (a + b) * f n = a * f n + b * f n; rw [Int.add_mul]
theorem pzero_padd (f : PS) : padd pzero f = f := by funext n; show 0 + f n = f n; omega
theorem padd_pzero (f : PS) : padd f pzero = f := by funext n; show f n + 0 = f n; omega
theorem pmul_pzero (f : PS) : pmul f pzero = pzero := by rw [pmul_comm, pzero_mul]
theorem padd_left_comm (f g h : PS) : padd f (padd g h) = padd g (padd f h) := by rw [← padd_assoc, padd_comm f g, padd_assoc]
theorem pmul_left_comm (f g h : PS) : pmul f (pmul g h) = pmul g (pmul f h) := by rw [← pmul_assoc, pmul_comm f g, pmul_assoc]

theorem dmono_insV (e : Nat → PS) (x : Nat) : ∀ l, dmono e (insV x l) = pmul (e x) (dmono e l)
  | [] => rfl
  | y :: ys => by
    unfold insV; split
    · rfl
    · show pmul (e y) (dmono e (insV x ys)) = pmul (e x) (pmul (e y) (dmono e ys))
      rw [dmono_insV e x ys, pmul_left_comm]
theorem dmono_mulM (e : Nat → PS) (b : List Nat) : ∀ a, dmono e (mulM a b) = pmul (dmono e a) (dmono e b)
  | [] => (pone_mul _).symm
  | x :: xs => by
    show dmono e (insV x (mulM xs b)) = pmul (pmul (e x) (dmono e xs)) (dmono e b)
    rw [dmono_insV, dmono_mulM e b xs, pmul_assoc]
theorem dpoly_insT (e : Nat → PS) (m : List Nat) (c : Int) : ∀ a, dpoly e (insT m c a) = padd (psmul c (dmono e m)) (dpoly e a)
  | [] => by
    unfold insT; split
    · rename_i h; rw [h, psmul_zero, pzero_padd]
    · rfl
  | t :: ts => by
    unfold insT
    by_cases h1 : m = t.1
    · rw [if_pos h1]
      show _ = padd (psmul c (dmono e m)) (padd (psmul t.2 (dmono e t.1)) (dpoly e ts))
      rw [← padd_assoc, ← h1, ← padd_psmul]
      by_cases h2 : c + t.2 = 0
      · rw [if_pos h2, h2, psmul_zero, pzero_padd]
      · rw [if_neg h2]; rfl
    · rw [if_neg h1]
      by_cases h2 : ltM m t.1 = true
      · rw [if_pos h2]
        by_cases h3 : c = 0
        · rw [if_pos h3, h3, psmul_zero, pzero_padd]
        · rw [if_neg h3]; rfl
      · rw [if_neg h2]
        show padd (psmul t.2 (dmono e t.1)) (dpoly e (insT m c ts)) = padd _ (padd (psmul t.2 (dmono e t.1)) (dpoly e ts))
        rw [dpoly_insT e m c ts, padd_left_comm]
theorem dpoly_addT (e : Nat → PS) (b : List (List Nat × Int)) : ∀ a, dpoly e (addT a b) = padd (dpoly e a) (dpoly e b)
  | [] => (pzero_padd _).symm
  | t :: ts => by
    show dpoly e (insT t.1 t.2 (addT ts b)) = padd (padd (psmul t.2 (dmono e t.1)) (dpoly e ts)) (dpoly e b)
    rw [dpoly_insT, dpoly_addT e b ts, padd_assoc]
theorem dpoly_sclT (e : Nat → PS) (m : List Nat) (c : Int) (acc : List (List Nat × Int)) : ∀ a, dpoly e (sclT m c a acc) = padd (psmul c (pmul (dmono e m) (dpoly e a))) (dpoly e acc)
  | [] => by show dpoly e acc = padd (psmul c (pmul _ pzero)) _; rw [pmul_pzero, psmul_pzero, pzero_padd]
  | t :: ts => by
    show dpoly e (insT (mulM m t.1) (c * t.2) (sclT m c ts acc)) = padd (psmul c (pmul (dmono e m) (padd (psmul t.2 (dmono e t.1)) (dpoly e ts)))) (dpoly e acc)
    rw [dpoly_insT, dpoly_sclT e m c acc ts, dmono_mulM, pmul_add, psmul_padd, pmul_psmul, psmul_psmul, padd_assoc]
theorem dpoly_mulT (e : Nat → PS) (b : List (List Nat × Int)) : ∀ a, dpoly e (mulT a b) = pmul (dpoly e a) (dpoly e b)
  | [] => (pzero_mul _).symm
  | t :: ts => by
    show dpoly e (sclT t.1 t.2 b (mulT ts b)) = pmul (padd (psmul t.2 (dmono e t.1)) (dpoly e ts)) (dpoly e b)
    rw [dpoly_sclT, dpoly_mulT e b ts, padd_mul, psmul_pmul]
theorem norm_den (e : Nat → PS) : ∀ r : RE, dpoly e r.norm = r.den e
  | .v n => by
    show padd (psmul 1 (pmul (e n) pone)) pzero = e n
    rw [psmul_one, pmul_one, padd_pzero]
  | .one => by
    show padd (psmul 1 pone) pzero = pone
    rw [psmul_one, padd_pzero]
  | .k c => by
    show dpoly e (if c = 0 then [] else [([], c)]) = psmul c pone
    split
    · rename_i h; rw [h, psmul_zero]; rfl
    · show padd (psmul c pone) pzero = _; rw [padd_pzero]
  | .add a b => by
    show dpoly e (addT a.norm b.norm) = padd (a.den e) (b.den e)
    rw [dpoly_addT, norm_den e a, norm_den e b]
  | .mul a b => by
    show dpoly e (mulT a.norm b.norm) = pmul (a.den e) (b.den e)
    rw [dpoly_mulT, norm_den e a, norm_den e b]
  | .neg a => by
    show dpoly e (sclT [] (-1) a.norm []) = psmul (-1) (a.den e)
    rw [dpoly_sclT, norm_den e a]
    show padd (psmul (-1) (pmul pone _)) pzero = _
    rw [pone_mul, padd_pzero]
/-- An environment of a few sequences. -/
def env (l : List PS) : Nat → PS := fun n => l.getD n pzero
/-- The identity holds where the normal forms are the same. -/
theorem RE.same (l : List PS) (a b : RE) (h : a.norm = b.norm) {f g : PS} (ha : a.den (env l) = f) (hb : b.den (env l) = g) : f = g := by
  rw [← ha, ← hb, ← norm_den, ← norm_den, h]

theorem Eqp.psub_zero {p : Int} {f g : PS} (h : Eqp p f g) : Eqp p (padd f (psmul (-1) g)) pzero := fun n => by
  show (f n + -1 * g n) % p = 0 % p
  have h1 := h n
  rw [show f n + -1 * g n = f n - g n by omega, Int.sub_emod, h1, Int.sub_self]
theorem Eqp.of_psub {p : Int} {f g : PS} (h : Eqp p (padd f (psmul (-1) g)) pzero) : Eqp p f g := fun n => by
  have h1 : (f n + -1 * g n) % p = 0 % p := h n
  rw [Int.zero_emod, show f n + -1 * g n = f n - g n by omega] at h1
  exact Int.emod_eq_emod_iff_emod_sub_eq_zero.2 h1
theorem Eqp.mul_zero {p : Int} {f : PS} (c : PS) (h : Eqp p f pzero) : Eqp p (pmul c f) pzero :=
  (Eqp.mul (Eqp.refl c) h).trans (Eqp.of_eq (pmul_pzero c))
theorem Eqp.add_zero {p : Int} {f g : PS} (h : Eqp p f pzero) (k : Eqp p g pzero) : Eqp p (padd f g) pzero :=
  (Eqp.add h k).trans (Eqp.of_eq (pzero_padd _))
/-- What follows from one, two or three congruences by multiples: the difference is the sum of the multiples of their differences. -/
theorem Eqp.lin1 {p : Int} {A B L R : PS} (c : PS) (h : Eqp p L R) (e : padd A (psmul (-1) B) = pmul c (padd L (psmul (-1) R))) : Eqp p A B :=
  Eqp.of_psub (e ▸ Eqp.mul_zero c h.psub_zero)
theorem Eqp.lin2 {p : Int} {A B L R L2 R2 : PS} (c c2 : PS) (h : Eqp p L R) (h2 : Eqp p L2 R2) (e : padd A (psmul (-1) B) = padd (pmul c (padd L (psmul (-1) R))) (pmul c2 (padd L2 (psmul (-1) R2)))) : Eqp p A B :=
  Eqp.of_psub (e ▸ Eqp.add_zero (Eqp.mul_zero c h.psub_zero) (Eqp.mul_zero c2 h2.psub_zero))
theorem Eqp.lin3 {p : Int} {A B L R L2 R2 L3 R3 : PS} (c c2 c3 : PS) (h : Eqp p L R) (h2 : Eqp p L2 R2) (h3 : Eqp p L3 R3)
    (e : padd A (psmul (-1) B) = padd (padd (pmul c (padd L (psmul (-1) R))) (pmul c2 (padd L2 (psmul (-1) R2)))) (pmul c3 (padd L3 (psmul (-1) R3)))) : Eqp p A B :=
  Eqp.of_psub (e ▸ Eqp.add_zero (Eqp.add_zero (Eqp.mul_zero c h.psub_zero) (Eqp.mul_zero c2 h2.psub_zero)) (Eqp.mul_zero c3 h3.psub_zero))
/-- A test: (a + b) (a - b) = a a - b b. -/
theorem RE.test (a b : PS) : pmul (padd a b) (padd a (psmul (-1) b)) = padd (pmul a a) (psmul (-1) (pmul b b)) :=
  RE.same [a, b] ((.v 0 + .v 1) * (.v 0 + -.v 1)) (.v 0 * .v 0 + -(.v 1 * .v 1)) (by decide) rfl rfl
end Go.Proofs.Ytojkngdabejjdaa

/- Greatest common divisors with their factors, inverses, two rests, logarithms, roots: what the program reckons and what the reference reckons. No program in sight. -/
namespace Go.Proofs.Ytojkngdabejjdaa

/-- The rests of the loop alone. -/
def gcl (p : Int) : Nat → List Int → List Int → List Int
  | 0, a, _ => a
  | n + 1, a, b => if b = [] then a else gcl p n b (divp p a b).2
theorem bzl_fst (p : Int) : ∀ (n : Nat) (a b u x v y : List Int), (bzl p n a b u x v y).1 = gcl p n a b
  | 0, _, _, _, _, _, _ => rfl
  | n + 1, a, b, u, x, v, y => by
    unfold bzl gcl
    split
    · rfl
    · exact bzl_fst p n _ _ _ _ _ _
/-- A multiple. -/
def Dv (p : Int) (d a : PS) : Prop := ∃ (q : PS) (N : Nat), Fin0 q N ∧ Eqp p a (pmul q d)
theorem Dv.refl {p : Int} (d : PS) : Dv p d d := ⟨pone, 1, fun i hi => by unfold pone; rw [if_neg (by omega)], Eqp.of_eq (pone_mul _).symm⟩
theorem Dv.zero {p : Int} (d : PS) : Dv p d pzero := ⟨pzero, 0, pzero_Fin0, Eqp.of_eq (pzero_mul _).symm⟩
theorem Dv.comb {p : Int} {d a b c q : PS} {N : Nat} (hq : Fin0 q N) (ha : Dv p d a) (hb : Dv p d b) (h : Eqp p c (padd (pmul q a) b)) : Dv p d c := by
  obtain ⟨s, S, hs, es⟩ := ha
  obtain ⟨t, T, ht, et⟩ := hb
  refine ⟨padd (pmul q s) t, _, (hq.pmul hs).padd ht, ?_⟩
  refine Eqp.lin3 pone q pone h es et ?_
  exact RE.same [c, q, a, b, s, d, t] (.v 0 + -((.v 1 * .v 4 + .v 6) * .v 5)) (.one * (.v 0 + -(.v 1 * .v 2 + .v 3)) + .v 1 * (.v 2 + -(.v 4 * .v 5)) + .one * (.v 3 + -(.v 6 * .v 5))) (by decide) rfl rfl
theorem cf_nil_zero : cf [] = pzero := by funext i; exact cf_nil i
theorem cf_one : cf [1] = pone := by funext i; rw [one_cf]; rfl
theorem scl_Po {p : Int} (hp : 0 < p) (a : List Int) (t : Int) : Po p (scl p a t) := addp_Po hp _ _ _
theorem scl_eqp (p : Int) (a : List Int) (t : Int) : Eqp p (cf (scl p a t)) (psmul t (cf a)) := by
  refine (addp_eqp p [] a t).trans (Eqp.of_eq ?_)
  rw [cf_nil_zero, pzero_padd]
theorem scl_length_le (p : Int) (a : List Int) (t : Int) : (scl p a t).length ≤ a.length := by
  have := addp_length p [] a t
  unfold scl; simpa using this
/-- Divided by its leading coefficient. -/
theorem scl_monic {p : Int} (hp : Pr p) {a : List Int} (ha : Po p a) (hne : a ≠ []) :
    (scl p a (invp p (cf a (a.length - 1)))).length = a.length ∧ cf (scl p a (invp p (cf a (a.length - 1)))) (a.length - 1) = 1 := by
  have hl := List.length_pos_iff.2 hne
  have hi := invp_spec hp (ha.lead hne) (ha.md _).2
  have h1 : cf (scl p a (invp p (cf a (a.length - 1)))) (a.length - 1) = 1 := by
    unfold scl
    rw [addp_cf, cf_nil, Int.zero_add]
    exact hi.2.2
  refine ⟨?_, h1⟩
  have h2 := scl_length_le p a (invp p (cf a (a.length - 1)))
  by_cases h3 : (scl p a (invp p (cf a (a.length - 1)))).length ≤ a.length - 1
  · rw [cf_ge _ _ h3] at h1; omega
  · omega

/-- The greatest common divisor divides both. -/
theorem gcl_dv {p : Int} (hp : Pr p) : ∀ (n : Nat) (a b : List Int), b.length < n → Po p a → Po p b → (a ≠ [] ∨ b ≠ []) →
    Po p (gcl p n a b) ∧ gcl p n a b ≠ [] ∧ Dv p (cf (gcl p n a b)) (cf a) ∧ Dv p (cf (gcl p n a b)) (cf b)
  | 0, _, _, h, _, _, _ => by omega
  | n + 1, a, b, h, ha, hb, hne => by
    unfold gcl
    by_cases hbe : b = []
    · rw [if_pos hbe]
      refine ⟨ha, ?_, Dv.refl _, ?_⟩
      · rcases hne with h1 | h1
        · exact h1
        · exact absurd hbe h1
      · rw [hbe, cf_nil_zero]; exact Dv.zero _
    · rw [if_neg hbe]
      obtain ⟨h1, h2, h3, h4⟩ := divp_spec hp ha hb hbe
      obtain ⟨k1, k2, k3, k4⟩ := gcl_dv hp n b (divp p a b).2 (by omega) hb h2 (Or.inl hbe)
      exact ⟨k1, k2, Dv.comb (cf_Fin0 _) k3 k4 h4, k3⟩

/-- The factors: the identity. -/
theorem bzl_ident {p : Int} (hp : Pr p) (A B : PS) : ∀ (n : Nat) (a b u x v y : List Int), b.length < n → Po p a → Po p b → Po p u → Po p x → Po p v → Po p y →
    Eqp p (cf a) (padd (pmul (cf u) A) (pmul (cf v) B)) → Eqp p (cf b) (padd (pmul (cf x) A) (pmul (cf y) B)) →
    Eqp p (cf (bzl p n a b u x v y).1) (padd (pmul (cf (bzl p n a b u x v y).2.1) A) (pmul (cf (bzl p n a b u x v y).2.2) B)) ∧ Po p (bzl p n a b u x v y).2.1 ∧ Po p (bzl p n a b u x v y).2.2
  | 0, _, _, _, _, _, _, h, _, _, _, _, _, _, _, _ => by omega
  | n + 1, a, b, u, x, v, y, h, ha, hb, hu, hx, hv, hy, e1, e2 => by
    unfold bzl
    by_cases hbe : b = []
    · rw [if_pos hbe]; exact ⟨e1, hu, hv⟩
    · rw [if_neg hbe]
      have hp2 := hp.pos
      obtain ⟨h1, h2, h3, h4⟩ := divp_spec hp ha hb hbe
      refine bzl_ident hp A B n b (divp p a b).2 x _ y _ (by omega) hb h2 hx (addp_Po (by omega) _ _ _) hy (addp_Po (by omega) _ _ _) e2 ?_
      have s1 := (addp_eqp p u (mulp p (divp p a b).1 x) (-1)).trans (Eqp.add (Eqp.refl _) (Eqp.smul (mulp_eqp p (divp p a b).1 x)))
      have s2 := (addp_eqp p v (mulp p (divp p a b).1 y) (-1)).trans (Eqp.add (Eqp.refl _) (Eqp.smul (mulp_eqp p (divp p a b).1 y)))
      generalize cf (addp p u (mulp p (divp p a b).1 x) (-1)) = U at *
      generalize cf (addp p v (mulp p (divp p a b).1 y) (-1)) = V at *
      have t1 : Eqp p (padd (pmul U A) (pmul V B)) (padd (pmul (padd (cf u) (psmul (-1) (pmul (cf (divp p a b).1) (cf x)))) A) (pmul (padd (cf v) (psmul (-1) (pmul (cf (divp p a b).1) (cf y)))) B)) :=
        Eqp.add (Eqp.mul s1 (Eqp.refl _)) (Eqp.mul s2 (Eqp.refl _))
      refine Eqp.trans ?_ t1.symm
      refine Eqp.lin3 (psmul (-1) pone) pone (psmul (-1) (cf (divp p a b).1)) h4 e1 e2 ?_
      exact RE.same [cf (divp p a b).2, cf u, cf (divp p a b).1, cf x, A, cf v, cf y, B, cf a, cf b]
        (.v 0 + -((.v 1 + -(.v 2 * .v 3)) * .v 4 + (.v 5 + -(.v 2 * .v 6)) * .v 7))
        ((-.one) * (.v 8 + -(.v 2 * .v 9 + .v 0)) + .one * (.v 8 + -(.v 1 * .v 4 + .v 5 * .v 7)) + (-.v 2) * (.v 9 + -(.v 3 * .v 4 + .v 6 * .v 7))) (by decide) rfl rfl

/-- What the greatest common divisor and its factors are. -/
structure BezOk (p : Int) (a b d u v : List Int) : Prop where
  pd : Po p d
  pu : Po p u
  pv : Po p v
  ne : d ≠ []
  one : cf d (d.length - 1) = 1
  id : Eqp p (cf d) (padd (pmul (cf u) (cf a)) (pmul (cf v) (cf b)))
  da : Dv p (cf d) (cf a)
  db : Dv p (cf d) (cf b)
theorem Dv.of_smul {p : Int} {d d' a : PS} {t : Int} (h : Dv p d a) (e : Eqp p d (psmul t d')) : Dv p d' a := by
  obtain ⟨q, N, hq, eq⟩ := h
  refine ⟨psmul t q, N, hq.psmul t, ?_⟩
  refine eq.trans ((Eqp.mul (Eqp.refl q) e).trans (Eqp.of_eq ?_))
  rw [pmul_psmul, psmul_pmul]
theorem bez_ok {p : Int} (hp : Pr p) {a b : List Int} (ha : Po p a) (hb : Po p b) (hne : a ≠ [] ∨ b ≠ []) : BezOk p a b (bez p a b).1 (bez p a b).2.1 (bez p a b).2.2 := by
  have hp2 := hp.pos
  have h1 := gcl_dv hp (b.length + 1) a b (by omega) ha hb hne
  have h2 := bzl_ident hp (cf a) (cf b) (b.length + 1) a b [1] [] [] [1] (by omega) ha hb (one_Po hp2.1) (Po_nil (by omega)) (Po_nil (by omega)) (one_Po hp2.1)
    (by rw [cf_one, cf_nil_zero, pone_mul, pzero_mul, padd_pzero]; exact Eqp.refl _) (by rw [cf_one, cf_nil_zero, pone_mul, pzero_mul, pzero_padd]; exact Eqp.refl _)
  unfold bez
  rw [← bzl_fst p (b.length + 1) a b [1] [] [] [1]] at h1
  generalize bzl p (b.length + 1) a b [1] [] [] [1] = r at *
  obtain ⟨d, u, v⟩ := r
  simp only at *
  obtain ⟨h3, h4, h5, h6⟩ := h1
  obtain ⟨e, hu, hv⟩ := h2
  have hi := invp_spec hp (h3.lead h4) (h3.md _).2
  have hm := scl_monic hp h3 h4
  have hback : Eqp p (cf d) (psmul (cf d (d.length - 1)) (cf (scl p d (invp p (cf d (d.length - 1)))))) := by
    have := Eqp.smul (c := cf d (d.length - 1)) (scl_eqp p d (invp p (cf d (d.length - 1))))
    refine Eqp.trans ?_ this.symm
    rw [psmul_psmul]
    intro n
    show cf d n % p = (cf d (d.length - 1) * invp p (cf d (d.length - 1)) * cf d n) % p
    rw [Int.mul_comm (cf d (d.length - 1))]
    have := hi.2.2
    rw [Int.mul_emod, this, Int.one_mul, Int.emod_emod_of_dvd _ (Int.dvd_refl p)]
  refine ⟨scl_Po (by omega) _ _, scl_Po (by omega) _ _, scl_Po (by omega) _ _, ?_, ?_, ?_, h5.of_smul hback, h6.of_smul hback⟩
  · intro h; have := hm.1; rw [h] at this; exact h4 (List.length_eq_zero_iff.1 this.symm)
  · rw [hm.1]; exact hm.2
  · refine (scl_eqp p d _).trans ((Eqp.smul e).trans ?_)
    refine Eqp.trans ?_ (Eqp.add (Eqp.mul (scl_eqp p u _).symm (Eqp.refl _)) (Eqp.mul (scl_eqp p v _).symm (Eqp.refl _)))
    rw [psmul_padd, psmul_pmul, psmul_pmul]
    exact Eqp.refl _

/-- The divisor of a rest and the modulus is that of the whole. -/
theorem bez_rst_fst {p : Int} (hp : Pr p) {a m : List Int} (ha : Po p a) (hm : Po p m) (hne : m ≠ []) : (bez p (rst p a m) m).1 = (bez p a m).1 := by
  have e : gcl p (m.length + 1) (rst p a m) m = gcl p (m.length + 1) a m := by
    unfold gcl
    rw [if_neg hne, if_neg hne]
    have := rst_short hp (rst_Po hp ha hm hne) hm (rst_lt hp ha hm hne)
    unfold rst at this ⊢
    rw [this]
  unfold bez
  simp only [bzl_fst, e]
/-- The inverse. -/
theorem inv_eq {p : Int} (hp : Pr p) {a m : List Int} (ha : Po p a) (hm : Po p m) (hne : m ≠ []) (h1 : (bez p a m).1 = [1]) :
    rst p (bez p (rst p a m) m).2.1 m = rst p (bez p a m).2.1 m := by
  have k1 := bez_ok hp ha hm (Or.inr hne)
  have k2 := bez_ok hp (rst_Po hp ha hm hne) hm (Or.inr hne)
  rw [bez_rst_fst hp ha hm hne, h1] at k2
  rw [h1] at k1
  have e1 := k1.id
  have e2 := k2.id
  have e3 := (divp_spec hp ha hm hne).2.2.2
  have pu := k1.pu
  have pu' := k2.pu
  have hf : rst p a m = (divp p a m).2 := rfl
  rw [← hf] at e3
  rw [cf_one] at e1 e2
  refine rst_congr hp pu' pu hm hne ?_
  generalize (bez p a m).2.1 = u at *
  generalize (bez p a m).2.2 = v at *
  generalize (bez p (rst p a m) m).2.1 = u' at *
  generalize (bez p (rst p a m) m).2.2 = v' at *
  refine Cg.symm ⟨padd (pmul (cf u) (cf v')) (psmul (-1) (padd (pmul (cf u') (cf v)) (pmul (pmul (cf u) (cf u')) (cf (divp p a m).1)))), _, ((cf_Fin0 u).pmul (cf_Fin0 v')).padd ((((cf_Fin0 u').pmul (cf_Fin0 v)).padd (((cf_Fin0 u).pmul (cf_Fin0 u')).pmul (cf_Fin0 _))).psmul _), ?_⟩
  refine Eqp.lin3 (psmul (-1) (cf u')) (cf u) (psmul (-1) (pmul (cf u) (cf u'))) e1 e2 e3 ?_
  exact RE.same [cf u, cf u', cf v, cf v', cf (divp p a m).1, cf m, cf a, cf (rst p a m)]
    (.v 0 + -(.v 1 + (.v 0 * .v 3 + -(.v 1 * .v 2 + .v 0 * .v 1 * .v 4)) * .v 5))
    ((-.v 1) * (.one + -(.v 0 * .v 6 + .v 2 * .v 5)) + .v 0 * (.one + -(.v 1 * .v 7 + .v 3 * .v 5)) + (-(.v 0 * .v 1)) * (.v 6 + -(.v 4 * .v 5 + .v 7))) (by decide) rfl rfl

/-- Two moduli without a common divisor. -/
theorem Cg.two {p : Int} {m n f g u v : PS} {U V : Nat} (hu : Fin0 u U) (hv : Fin0 v V) (h1 : Eqp p pone (padd (pmul u m) (pmul v n))) (hm : Cg p m f g) (hn : Cg p n f g) : Cg p (pmul m n) f g := by
  obtain ⟨a, A, ha, ea⟩ := hm
  obtain ⟨b, B, hb, eb⟩ := hn
  refine ⟨padd (pmul u b) (pmul v a), _, (hu.pmul hb).padd (hv.pmul ha), ?_⟩
  refine Eqp.lin3 (padd f (psmul (-1) g)) (pmul v n) (pmul u m) h1 ea eb ?_
  exact RE.same [f, g, u, v, a, b, m, n]
    (.v 0 + -(.v 1 + (.v 2 * .v 5 + .v 3 * .v 4) * (.v 6 * .v 7)))
    ((.v 0 + -.v 1) * (.one + -(.v 2 * .v 6 + .v 3 * .v 7)) + .v 3 * .v 7 * (.v 0 + -(.v 1 + .v 4 * .v 6)) + .v 2 * .v 6 * (.v 0 + -(.v 1 + .v 5 * .v 7))) (by decide) rfl rfl
theorem Cg.modulus {p : Int} {m m' f g : PS} (h : Eqp p m m') (k : Cg p m f g) : Cg p m' f g := by
  obtain ⟨a, A, ha, ea⟩ := k
  exact ⟨a, A, ha, ea.trans (Eqp.add (Eqp.refl _) (Eqp.mul (Eqp.refl _) h))⟩
theorem Cg.of_mul {p : Int} {m q : PS} {N : Nat} (hq : Fin0 q N) : Cg p m (pmul q m) pzero := ⟨q, N, hq, by rw [pzero_padd]; exact Eqp.refl _⟩
end Go.Proofs.Ytojkngdabejjdaa

/- Powers of a residue come again (logarithms); coefficients of a root. No program in sight. -/
namespace Go.Proofs.Ytojkngdabejjdaa

theorem pigeon : ∀ (N : Nat) (f : Nat → Nat), (∀ i, i ≤ N → f i < N) → ∃ i j, i < j ∧ j ≤ N ∧ f i = f j
  | 0, f, h => by have := h 0 (Nat.le_refl _); omega
  | N + 1, f, h => by
    by_cases hx : ∃ i, i ≤ N ∧ f i = f (N + 1)
    · obtain ⟨i, hi, e⟩ := hx
      exact ⟨i, N + 1, by omega, Nat.le_refl _, e⟩
    · have hne : ∀ i, i ≤ N → f i ≠ f (N + 1) := fun i hi e => hx ⟨i, hi, e⟩
      have hl := h (N + 1) (Nat.le_refl _)
      obtain ⟨i, j, hij, hj, e⟩ := pigeon N (fun i => if f i > f (N + 1) then f i - 1 else f i) (fun i hi => by
        have h1 := h i (by omega)
        have h2 := hne i hi
        show (if f i > f (N + 1) then f i - 1 else f i) < N
        split <;> omega)
      refine ⟨i, j, hij, by omega, ?_⟩
      have h1 := hne i (by omega)
      have h2 := hne j hj
      replace e : (if f i > f (N + 1) then f i - 1 else f i) = (if f j > f (N + 1) then f j - 1 else f j) := e
      split at e <;> split at e <;> omega

/-- The number of a polynomial. -/
def num (p : Int) : List Int → Int
  | [] => 0
  | x :: xs => x + p * num p xs
theorem Md_cons {p x : Int} {xs : List Int} (h : Md p (x :: xs)) : 0 ≤ x ∧ x < p ∧ Md p xs :=
  ⟨by have := (h 0).1; rwa [cf_cons_zero] at this, by have := (h 0).2; rwa [cf_cons_zero] at this, fun i => by have := h (i + 1); rwa [cf_cons_succ] at this⟩
theorem num_lt {p : Int} (hp : 2 ≤ p) : ∀ (xs : List Int) (n : Nat), Md p xs → xs.length ≤ n → 0 ≤ num p xs ∧ num p xs < p ^ n
  | [], n, _, _ => ⟨Int.le_refl 0, Int.pow_pos (by omega)⟩
  | x :: xs, 0, _, h => by simp at h
  | x :: xs, n + 1, hm, h => by
    obtain ⟨h1, h2, h3⟩ := Md_cons hm
    obtain ⟨k1, k2⟩ := num_lt hp xs n h3 (by simpa using h)
    show 0 ≤ x + p * num p xs ∧ x + p * num p xs < p ^ (n + 1)
    have e1 : 0 ≤ p * num p xs := Int.mul_nonneg (by omega) k1
    have e2 : p * (num p xs + 1) ≤ p * p ^ n := Int.mul_le_mul_of_nonneg_left (by omega) (by omega)
    rw [Int.mul_add, Int.mul_one] at e2
    rw [Int.pow_succ, Int.mul_comm (p ^ n) p]
    omega
theorem num_inj {p : Int} (hp : 2 ≤ p) : ∀ (xs ys : List Int), Md p xs → Md p ys → num p xs = num p ys → ∀ i, cf xs i = cf ys i
  | [], [], _, _, _, i => rfl
  | [], y :: ys, hx, hy, e, i => by
    obtain ⟨h1, h2, h3⟩ := Md_cons hy
    have e' : 0 = y + p * num p ys := e
    have hn := (num_lt hp ys _ h3 (Nat.le_refl _)).1
    have hz : num p ys = 0 := by
      refine Classical.byContradiction fun hne => ?_
      have : p * 1 ≤ p * num p ys := Int.mul_le_mul_of_nonneg_left (by omega) (by omega)
      omega
    rw [hz] at e'
    cases i with
    | zero => rw [cf_nil, cf_cons_zero]; omega
    | succ i => rw [cf_nil, cf_cons_succ, ← num_inj hp [] ys (Md_nil (by omega)) h3 hz.symm i, cf_nil]
  | x :: xs, [], hx, hy, e, i => by
    obtain ⟨h1, h2, h3⟩ := Md_cons hx
    have e' : x + p * num p xs = 0 := e
    have hn := (num_lt hp xs _ h3 (Nat.le_refl _)).1
    have hz : num p xs = 0 := by
      refine Classical.byContradiction fun hne => ?_
      have : p * 1 ≤ p * num p xs := Int.mul_le_mul_of_nonneg_left (by omega) (by omega)
      omega
    rw [hz] at e'
    cases i with
    | zero => rw [cf_nil, cf_cons_zero]; omega
    | succ i => rw [cf_nil, cf_cons_succ, num_inj hp xs [] h3 (Md_nil (by omega)) hz i, cf_nil]
  | x :: xs, y :: ys, hx, hy, e, i => by
    obtain ⟨h1, h2, h3⟩ := Md_cons hx
    obtain ⟨k1, k2, k3⟩ := Md_cons hy
    have e' : x + p * num p xs = y + p * num p ys := e
    have m1 : (x + p * num p xs) % p = x := by rw [Int.add_mul_emod_self_left]; exact Int.emod_eq_of_lt h1 h2
    have m2 : (y + p * num p ys) % p = y := by rw [Int.add_mul_emod_self_left]; exact Int.emod_eq_of_lt k1 k2
    have exy : x = y := by rw [← m1, ← m2, e']
    have en : num p xs = num p ys := Int.eq_of_mul_eq_mul_left (show p ≠ 0 by omega) (by omega)
    cases i with
    | zero => rw [cf_cons_zero, cf_cons_zero]; exact exy
    | succ i => rw [cf_cons_succ, cf_cons_succ]; exact num_inj hp xs ys h3 k3 en i

/-- The powers of a base, one behind the other. -/
def lgs (p : Int) (base m : List Int) : Nat → List Int
  | 0 => [1]
  | k + 1 => mulmod p (lgs p base m k) base m
theorem lgs_ok {p : Int} (hp : Pr p) {base m : List Int} (hm : Po p m) (h2 : 2 ≤ m.length) : ∀ k, Po p (lgs p base m k) ∧ (lgs p base m k).length < m.length
  | 0 => ⟨one_Po hp.pos.1, by show 1 < _; omega⟩
  | k + 1 => by
    have hne : m ≠ [] := fun e => by rw [e] at h2; simp at h2
    exact ⟨mulmod_Po hp hm hne, mulmod_lt hp hm hne⟩
theorem lgs_shift (p : Int) (base m : List Int) {i j : Nat} (h : lgs p base m i = lgs p base m j) : ∀ t, lgs p base m (i + t) = lgs p base m (j + t)
  | 0 => h
  | t + 1 => by
    show mulmod p (lgs p base m (i + t)) base m = mulmod p (lgs p base m (j + t)) base m
    rw [lgs_shift p base m h t]
/-- A power behind all residues has been there before. -/
theorem lgs_last {p : Int} (hp : Pr p) {base m : List Int} (hm : Po p m) (h2 : 2 ≤ m.length) (N : Nat) (hN : (N : Int) = p ^ (m.length - 1)) : ∃ k, k < N ∧ lgs p base m k = lgs p base m N := by
  have hp2 := hp.pos.1
  obtain ⟨i, j, hij, hj, e⟩ := pigeon N (fun k => (num p (lgs p base m k)).toNat) (fun k _ => by
    obtain ⟨h1, h3⟩ := lgs_ok (base := base) hp hm h2 k
    have := num_lt hp2 (lgs p base m k) (m.length - 1) h1.md (by omega)
    show (num p (lgs p base m k)).toNat < N
    omega)
  have e2 : lgs p base m i = lgs p base m j := by
    obtain ⟨h1, h3⟩ := lgs_ok (base := base) hp hm h2 i
    obtain ⟨k1, k3⟩ := lgs_ok (base := base) hp hm h2 j
    have n1 := num_lt hp2 (lgs p base m i) _ h1.md (Nat.le_refl _)
    have n2 := num_lt hp2 (lgs p base m j) _ k1.md (Nat.le_refl _)
    replace e : (num p (lgs p base m i)).toNat = (num p (lgs p base m j)).toNat := e
    exact h1.ext k1 (num_inj hp2 _ _ h1.md k1.md (by omega))
  have := lgs_shift p base m e2 (N - j)
  rw [show j + (N - j) = N by omega] at this
  exact ⟨i + (N - j), by omega, this⟩

/-- The next coefficient of a root. -/
def rtv (p half : Int) (D : Nat → Int) (top k : Nat) (s : Nat → Int) (n : Nat) : Int := D (top - k) - sumN n (fun i => s (i + 1) * s (k - 1 - i))
def rts (p half : Int) (D : Nat → Int) (top : Nat) : Nat → List Int
  | 0 => [1]
  | k + 1 => rts p half D top k ++ [rtv p half D top (k + 1) (cf (rts p half D top k)) k % p * half % p]
theorem rts_length (p half : Int) (D : Nat → Int) (top : Nat) : ∀ k, (rts p half D top k).length = k + 1
  | 0 => rfl
  | k + 1 => by show (_ ++ [_]).length = _; rw [List.length_append, rts_length p half D top k]; rfl
theorem cf_append_left (a b : List Int) (i : Nat) (h : i < a.length) : cf (a ++ b) i = cf a i := by
  unfold cf
  rw [List.getD_eq_getElem?_getD, List.getD_eq_getElem?_getD, List.getElem?_append_left h]
theorem cf_append_at (a : List Int) (x : Int) : cf (a ++ [x]) a.length = x := by
  unfold cf
  rw [List.getD_eq_getElem?_getD, List.getElem?_append_right (Nat.le_refl _)]; simp
theorem cf_append_one (a : List Int) (x : Int) (i : Nat) : cf (a ++ [x]) i = if i = a.length then x else cf a i := by
  by_cases h : i < a.length
  · rw [cf_append_left _ _ _ h, if_neg (by omega)]
  · by_cases e : i = a.length
    · subst e; rw [cf_append_at, if_pos rfl]
    · rw [if_neg e, cf_ge _ _ (by simp; omega), cf_ge _ _ (by omega)]
theorem rts_md {p half : Int} (hp : 2 ≤ p) (D : Nat → Int) (top : Nat) : ∀ k, Md p (rts p half D top k)
  | 0 => (one_Po hp).md
  | k + 1 => fun i => by
    show 0 ≤ cf (_ ++ [_]) i ∧ cf (_ ++ [_]) i < p
    rw [cf_append_one]
    split
    · exact ⟨Int.emod_nonneg _ (by omega), Int.emod_lt_of_pos _ (by omega)⟩
    · exact rts_md hp D top k i
theorem rts_zero {p half : Int} (D : Nat → Int) (top : Nat) : ∀ k, cf (rts p half D top k) 0 = 1
  | 0 => rfl
  | k + 1 => by
    show cf (_ ++ [_]) 0 = 1
    rw [cf_append_left _ _ _ (by rw [rts_length]; omega)]
    exact rts_zero D top k
end Go.Proofs.Ytojkngdabejjdaa

/- Sums of multiples of vectors modulo p; lists of vectors with places of their own; the least relation is the only one. No program in sight. -/
namespace Go.Proofs.Ytojkngdabejjdaa

/-- Sums of multiples of the vectors of a list. -/
inductive Sp (p : Int) (l : List PS) : PS → Prop
  | zero {f : PS} (h : Eqp p f pzero) : Sp p l f
  | step {f g v : PS} (t : Int) (hv : v ∈ l) (hf : Sp p l f) (h : Eqp p g (padd f (psmul t v))) : Sp p l g
theorem Sp.congr {p : Int} {l : List PS} {f g : PS} (h : Sp p l f) (e : Eqp p g f) : Sp p l g := by
  cases h with
  | zero h => exact .zero (e.trans h)
  | step t hv hf h => exact .step t hv hf (e.trans h)
theorem Sp.add {p : Int} {l : List PS} {f g : PS} (hf : Sp p l f) (hg : Sp p l g) : Sp p l (padd f g) := by
  induction hg with
  | zero h => exact hf.congr ((Eqp.add (Eqp.refl _) h).trans (Eqp.of_eq (padd_pzero _)))
  | step t hv _ h ih => exact .step t hv ih ((Eqp.add (Eqp.refl _) h).trans (Eqp.of_eq (padd_assoc _ _ _).symm))
theorem Sp.smul {p : Int} {l : List PS} {f : PS} (c : Int) (hf : Sp p l f) : Sp p l (psmul c f) := by
  induction hf with
  | zero h => exact .zero ((Eqp.smul h).trans (Eqp.of_eq (psmul_pzero c)))
  | step t hv _ h ih => exact .step (c * t) hv ih ((Eqp.smul h).trans (Eqp.of_eq (by rw [psmul_padd, psmul_psmul])))
theorem Sp.mem {p : Int} {l : List PS} {v : PS} (h : v ∈ l) : Sp p l v := .step 1 h (.zero (Eqp.refl pzero)) (Eqp.of_eq (by rw [pzero_padd, psmul_one]))
theorem Sp.sub {p : Int} {l l' : List PS} (h : ∀ v ∈ l, Sp p l' v) {f : PS} (hf : Sp p l f) : Sp p l' f := by
  induction hf with
  | zero h => exact .zero h
  | step t hv _ e ih => exact (ih.add ((h _ hv).smul t)).congr e
theorem Sp.mono {p : Int} {l l' : List PS} (h : ∀ v ∈ l, v ∈ l') {f : PS} (hf : Sp p l f) : Sp p l' f := hf.sub fun v hv => .mem (h v hv)
/-- The first vector apart. -/
theorem Sp.head {p : Int} {v : PS} {l : List PS} {f : PS} (hf : Sp p (v :: l) f) : ∃ (t : Int) (g : PS), Sp p l g ∧ Eqp p f (padd (psmul t v) g) := by
  induction hf with
  | zero h => exact ⟨0, pzero, .zero (Eqp.refl _), h.trans (Eqp.of_eq (by rw [psmul_zero, padd_pzero]))⟩
  | step t hv _ e ih =>
    obtain ⟨s, g, hg, eg⟩ := ih
    rcases List.mem_cons.1 hv with rfl | h1
    · exact ⟨s + t, g, hg, e.trans ((Eqp.add eg (Eqp.refl _)).trans (Eqp.of_eq (by rw [padd_psmul, padd_assoc, padd_assoc, padd_comm g])))⟩
    · exact ⟨s, _, .step t h1 hg (Eqp.refl _), e.trans ((Eqp.add eg (Eqp.refl _)).trans (Eqp.of_eq (padd_assoc _ _ _)))⟩

/-- Vectors with their places: at a vector's place all later ones are 0, and itself is not. -/
def Tri (p : Int) : List (PS × Nat) → Prop
  | [] => True
  | x :: l => x.1 x.2 % p ≠ 0 ∧ (∀ y ∈ l, y.1 x.2 % p = 0) ∧ Tri p l
theorem Sp.at_zero {p : Int} {l : List PS} {k : Nat} (h : ∀ v ∈ l, v k % p = 0) {f : PS} (hf : Sp p l f) : f k % p = 0 := by
  induction hf with
  | zero e => rw [e k]; exact Int.zero_emod p
  | step t hv _ e ih =>
    rw [e k]
    show (_ + t * _) % p = 0
    rw [Int.add_emod, ih, Int.mul_emod, h _ hv]; simp
theorem emod_zero_mul {p x y : Int} (hp : Pr p) (h : x * y % p = 0) (hy : y % p ≠ 0) : x % p = 0 := by
  have hp2 := hp.pos
  refine Classical.byContradiction fun hx => ?_
  have h1 := Int.emod_nonneg x (show p ≠ 0 by omega)
  have h2 := Int.emod_lt_of_pos x (show 0 < p by omega)
  have h3 := Int.emod_nonneg y (show p ≠ 0 by omega)
  have h4 := Int.emod_lt_of_pos y (show 0 < p by omega)
  exact pr_mul_ne hp (show 0 < x % p by omega) h2 (show 0 < y % p by omega) h4 (by rw [← Int.mul_emod]; exact h)
/-- What is a sum of multiples, and 0 at all places, is 0. -/
theorem Tri.zero {p : Int} (hp : Pr p) : ∀ (l : List (PS × Nat)), Tri p l → ∀ {f : PS}, Sp p (l.map (·.1)) f → (∀ x ∈ l, f x.2 % p = 0) → Eqp p f pzero
  | [], _, f, hf, _ => by
    cases hf with
    | zero h => exact h
    | step t hv _ _ => cases hv
  | x :: l, ht, f, hf, hz => by
    obtain ⟨h1, h2, h3⟩ := ht
    obtain ⟨t, g, hg, e⟩ := Sp.head hf
    have hgz : g x.2 % p = 0 := Sp.at_zero (fun v hv => by
      obtain ⟨y, hy, rfl⟩ := List.mem_map.1 hv
      exact h2 y hy) hg
    have ht0 : t % p = 0 := by
      refine emod_zero_mul hp ?_ h1
      have := hz x (by simp)
      rw [e x.2] at this
      have e2 : (t * x.1 x.2 + g x.2) % p = 0 := this
      rw [Int.add_emod, hgz, Int.add_zero, Int.emod_emod_of_dvd _ (Int.dvd_refl p)] at e2
      exact e2
    have e3 : Eqp p f g := e.trans fun n => by
      show (t * x.1 n + g n) % p = g n % p
      rw [Int.add_emod, Int.mul_emod, ht0]; simp
    exact e3.trans (Tri.zero hp l h3 hg fun y hy => by rw [← e3 y.2]; exact hz y (List.mem_cons_of_mem _ hy))
theorem Tri.snoc {p : Int} : ∀ (l : List (PS × Nat)) (x : PS × Nat), Tri p l → x.1 x.2 % p ≠ 0 → (∀ y ∈ l, x.1 y.2 % p = 0) → Tri p (l ++ [x])
  | [], x, _, h, _ => ⟨h, fun _ h => absurd h (by simp), trivial⟩
  | y :: l, x, ht, h, hz => by
    obtain ⟨h1, h2, h3⟩ := ht
    refine ⟨h1, fun z hz2 => ?_, Tri.snoc l x h3 h fun z hz2 => hz z (List.mem_cons_of_mem _ hz2)⟩
    rcases List.mem_append.1 hz2 with h4 | h4
    · exact h2 z h4
    · rw [List.mem_singleton.1 h4]; exact hz y (by simp)

/-- What a polynomial makes of a sequence of vectors. -/
def lin (X : Nat → PS) (c : PS) (n : Nat) : PS := fun i => sumN n (fun j => c j * X j i)
theorem lin_congr {p : Int} {X : Nat → PS} {c d : PS} (h : Eqp p c d) (n : Nat) : Eqp p (lin X c n) (lin X d n) := fun i => sumN_emod fun j _ => emod_mul_congr (h j) rfl
theorem lin_ge {X : Nat → PS} {c : PS} {n m : Nat} (hc : Fin0 c n) (h : n ≤ m) : lin X c m = lin X c n := by
  funext i; exact sumN_ge h fun j hj => by rw [hc j hj, Int.zero_mul]
theorem lin_add (X : Nat → PS) (c d : PS) (n : Nat) : lin X (padd c d) n = padd (lin X c n) (lin X d n) := by
  funext i
  show sumN n (fun j => (c j + d j) * X j i) = sumN n _ + sumN n _
  rw [← sumN_add]; exact sumN_congr fun j _ => Int.add_mul _ _ _
theorem lin_smul (X : Nat → PS) (t : Int) (c : PS) (n : Nat) : lin X (psmul t c) n = psmul t (lin X c n) := by
  funext i
  show sumN n (fun j => t * c j * X j i) = t * sumN n _
  rw [← sumN_mul]; exact sumN_congr fun j _ => Int.mul_assoc _ _ _
theorem lin_mono (X : Nat → PS) {k n : Nat} (h : k < n) : lin X (mono 1 k) n = X k := by
  funext i
  show sumN n (fun j => mono 1 k j * X j i) = X k i
  rw [sumN_single h fun j _ hj => by unfold mono; rw [if_neg hj, Int.zero_mul]]
  unfold mono; rw [if_pos rfl, Int.one_mul]
/-- The vectors ahead of one. -/
def ahead (X : Nat → PS) (k : Nat) : List PS := (List.range k).map X
theorem ahead_mem (X : Nat → PS) {j k : Nat} (h : j < k) : X j ∈ ahead X k := List.mem_map.2 ⟨j, List.mem_range.2 h, rfl⟩
theorem lin_Sp {p : Int} (X : Nat → PS) (c : PS) : ∀ {k m : Nat}, k ≤ m → Sp p (ahead X m) (lin X c k)
  | 0, m, _ => .zero (Eqp.refl _)
  | k + 1, m, h => .step (c k) (ahead_mem X (show k < m by omega)) (lin_Sp X c (by omega)) (Eqp.refl _)

/-- A relation: monic of degree k. -/
structure Rel (p : Int) (X : Nat → PS) (k : Nat) (c : List Int) : Prop where
  po : Po p c
  len : c.length = k + 1
  one : cf c k = 1
  zero : Eqp p (lin X (cf c) (k + 1)) pzero
/-- A relation makes the last vector a sum of multiples of those ahead. -/
theorem Rel.Sp {p : Int} {X : Nat → PS} {k : Nat} {c : List Int} (h : Rel p X k c) : Sp p (ahead X k) (X k) := by
  have h1 := (lin_Sp (p := p) X (cf c) (Nat.le_refl k)).smul (-1)
  refine h1.congr fun i => ?_
  have h2 : (sumN k (fun j => cf c j * X j i) + cf c k * X k i) % p = 0 % p := h.zero i
  rw [h.one, Int.one_mul, Int.zero_emod] at h2
  show X k i % p = (-1 * sumN k (fun j => cf c j * X j i)) % p
  refine Int.emod_eq_emod_iff_emod_sub_eq_zero.2 ?_
  rw [show X k i - -1 * sumN k (fun j => cf c j * X j i) = sumN k (fun j => cf c j * X j i) + X k i by omega]
  exact h2
/-- A relation is the only one where none of a lesser degree is. -/
theorem Rel.only {p : Int} (hp : Pr p) {X : Nat → PS} {k : Nat} {c d : List Int} (hc : Rel p X k c) (hd : Rel p X k d) (hno : ∀ j, j < k → ¬ ∃ e, Rel p X j e) : c = d := by
  have hp2 := hp.pos
  refine sub_eq_nil hc.po hd.po ?_
  refine Classical.byContradiction fun hne => ?_
  have hP := addp_Po (p := p) (by omega) c d (-1)
  have hE := addp_eqp p c d (-1)
  have htop : cf (addp p c d (-1)) k = 0 := by rw [addp_cf, hc.one, hd.one]; simp
  have hl0 := addp_length p c d (-1)
  have hlen : (addp p c d (-1)).length ≤ k := Tr_length_le hP.tr fun i hi => by
    by_cases e : i = k
    · rw [e]; exact htop
    · rw [addp_cf, cf_ge c i (by have := hc.len; omega), cf_ge d i (by have := hd.len; omega)]; simp
  generalize addp p c d (-1) = s at *
  have hpos := List.length_pos_iff.2 hne
  have hm := scl_monic hp hP hne
  refine hno (s.length - 1) (by omega) ⟨_, scl_Po (by omega) s (invp p (cf s (s.length - 1))), by rw [hm.1]; omega, hm.2, ?_⟩
  rw [show s.length - 1 + 1 = s.length by omega]
  refine (lin_congr (scl_eqp p s _) _).trans ?_
  rw [lin_smul]
  have e1 : Eqp p (lin X (cf s) s.length) pzero := by
    rw [← lin_ge (cf_Fin0 s) (show s.length ≤ k + 1 by omega)]
    refine (lin_congr hE _).trans ?_
    rw [lin_add, lin_smul]
    refine (Eqp.add hc.zero (Eqp.smul hd.zero)).trans (Eqp.of_eq ?_)
    rw [psmul_pzero, padd_pzero]
  exact (Eqp.smul e1).trans (Eqp.of_eq (psmul_pzero _))

/-- What has been found ahead of vector k: vectors with places, and for each vector ahead that it is a sum of multiples of them. -/
structure Known (p : Int) (X : Nat → PS) (k : Nat) (l : List (PS × Nat)) : Prop where
  tri : Tri p l
  all : ∀ j, j < k → Sp p (l.map (·.1)) (X j)
  none : ∀ j, j < k → ¬ ∃ e, Rel p X j e
/-- A vector that is left, 0 at all places and not 0: no relation. -/
theorem Known.no {p : Int} (hp : Pr p) {X : Nat → PS} {k : Nat} {l : List (PS × Nat)} (h : Known p X k l) {v : PS} (hv : Sp p (l.map (·.1)) (padd v (psmul (-1) (X k)))) (hz : ∀ x ∈ l, v x.2 % p = 0) (hne : ¬ Eqp p v pzero) : ¬ ∃ e, Rel p X k e := by
  rintro ⟨e, he⟩
  have h1 := he.Sp.sub (l' := l.map (·.1)) fun u hu => by
    obtain ⟨j, hj, rfl⟩ := List.mem_map.1 hu
    exact h.all j (List.mem_range.1 hj)
  have h2 := (hv.add h1).congr (g := v) (Eqp.of_eq (RE.same [v, X k] (.v 0) ((.v 0 + -.v 1) + .v 1) (by decide) rfl rfl))
  exact hne (Tri.zero hp l h.tri h2 hz)
/-- The next stage: the list with the new vector in it, in some order. -/
theorem Known.next {p : Int} {X : Nat → PS} {k : Nat} {l l' : List (PS × Nat)} (h : Known p X k l) {v : PS} {q : Nat} (hv : Sp p (l.map (·.1)) (padd v (psmul (-1) (X k)))) (hno : ¬ ∃ e, Rel p X k e)
    (hm : ∀ x, x ∈ l' ↔ x ∈ l ∨ x = (v, q)) (ht : Tri p l') : Known p X (k + 1) l' := by
  have hsub : ∀ u ∈ l.map (·.1), u ∈ l'.map (·.1) := fun u hu => by
    obtain ⟨x, hx, rfl⟩ := List.mem_map.1 hu
    exact List.mem_map.2 ⟨x, (hm x).2 (Or.inl hx), rfl⟩
  have hvm : v ∈ l'.map (·.1) := List.mem_map.2 ⟨(v, q), (hm _).2 (Or.inr rfl), rfl⟩
  refine ⟨ht, fun j hj => ?_, fun j hj => ?_⟩
  · by_cases e : j = k
    · subst e
      have h1 := (Sp.mem (p := p) hvm).add (((hv.mono hsub)).smul (-1))
      exact h1.congr (Eqp.of_eq (RE.same [v, X j] (.v 1) (.v 0 + -(.v 0 + -.v 1)) (by decide) rfl rfl))
    · exact (h.all j (by omega)).mono hsub
  · by_cases e : j = k
    · subst e; exact hno
    · exact h.none j (by omega)
theorem Known.start (p : Int) (X : Nat → PS) : Known p X 0 [] := ⟨trivial, fun _ h => absurd h (by omega), fun _ h => absurd h (by omega)⟩
/-- Two that end with a relation end with the same. -/
theorem Known.same {p : Int} (hp : Pr p) {X : Nat → PS} {k k' : Nat} {c c' : List Int} (h : ∀ j, j < k → ¬ ∃ e, Rel p X j e) (h' : ∀ j, j < k' → ¬ ∃ e, Rel p X j e) (hc : Rel p X k c) (hc' : Rel p X k' c') : c = c' := by
  by_cases h1 : k < k'
  · exact absurd ⟨c, hc⟩ (h' k h1)
  · by_cases h2 : k' < k
    · exact absurd ⟨c', hc'⟩ (h k' h2)
    · obtain rfl : k = k' := by omega
      exact hc.only hp hc' h
/-- As many vectors as places. -/
theorem Tri.places {p : Int} : ∀ (l : List (PS × Nat)), Tri p l → (l.map (·.2)).Nodup
  | [], _ => List.Pairwise.nil
  | x :: l, h => by
    rw [List.map_cons, List.nodup_cons]
    refine ⟨fun hm => ?_, Tri.places l h.2.2⟩
    obtain ⟨y, hy, e⟩ := List.mem_map.1 hm
    have h1 := h.2.1 y hy
    obtain ⟨a, b, rfl⟩ := List.append_of_mem hy
    have : ∀ (l : List (PS × Nat)), Tri p l → ∀ z ∈ l, z.1 z.2 % p ≠ 0 := by
      intro l
      induction l with
      | nil => intro _ z hz; cases hz
      | cons a l ih =>
        intro ht z hz
        rcases List.mem_cons.1 hz with rfl | h2
        · exact ht.1
        · exact ih ht.2.2 z h2
    have h2 := this _ h.2.2 y hy
    rw [e] at h2
    exact h2 h1
theorem nodup_bound : ∀ (n : Nat) (l : List Nat), l.Nodup → (∀ x ∈ l, x < n) → l.length ≤ n
  | 0, l, _, h => by
    cases l with
    | nil => exact Nat.le_refl _
    | cons x l => exact absurd (h x (by simp)) (by omega)
  | n + 1, l, hn, h => by
    have h1 := nodup_bound n (l.filter (· != n)) (hn.sublist List.filter_sublist) fun x hx => by
      have h2 := List.mem_filter.1 hx
      have h3 := h x h2.1
      have h4 : x ≠ n := by simpa using h2.2
      omega
    have h2 : l.length ≤ (l.filter (· != n)).length + 1 := by
      clear h h1
      induction l with
      | nil => simp
      | cons x l ih =>
        have hn2 := List.nodup_cons.1 hn
        by_cases e : x = n
        · subst e
          have : l.filter (· != x) = l := List.filter_eq_self.2 fun y hy => by
            have : y ≠ x := fun e => hn2.1 (e ▸ hy)
            simpa using this
          simp [this]
        · have := ih hn2.2
          have e2 : (x != n) = true := by simpa using e
          simp only [List.filter_cons, e2, if_true, List.length_cons]
          omega
    omega
end Go.Proofs.Ytojkngdabejjdaa

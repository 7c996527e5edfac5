/- Sequences of whole numbers with sums and products (power series), and what holds modulo p. No program in sight. -/
import Derived.Test.YthkkicanockhgaaPlain
namespace Go.Proofs.Ythkkicanockhgaa

def sumN : Nat → (Nat → Int) → Int
  | 0, _ => 0
  | n + 1, f => sumN n f + f n
theorem sumN_congr {n : Nat} {f g : Nat → Int} (h : ∀ i, i < n → f i = g i) : sumN n f = sumN n g := by
  induction n with
  | zero => rfl
  | succ n ih => show sumN n f + f n = sumN n g + g n; rw [ih fun i hi => h i (by omega), h n (by omega)]
theorem sumN_zero (n : Nat) : sumN n (fun _ => 0) = 0 := by
  induction n with
  | zero => rfl
  | succ n ih => show sumN n _ + 0 = 0; rw [ih]; rfl
theorem sumN_add (n : Nat) (f g : Nat → Int) : sumN n (fun i => f i + g i) = sumN n f + sumN n g := by
  induction n with
  | zero => rfl
  | succ n ih => show sumN n _ + (f n + g n) = (sumN n f + f n) + (sumN n g + g n); rw [ih]; omega
theorem sumN_mul (n : Nat) (c : Int) (f : Nat → Int) : sumN n (fun i => c * f i) = c * sumN n f := by
  induction n with
  | zero => simp [sumN]
  | succ n ih => show sumN n _ + c * f n = c * (sumN n f + f n); rw [ih, Int.mul_add]
theorem sumN_mul_right (n : Nat) (c : Int) (f : Nat → Int) : sumN n (fun i => f i * c) = sumN n f * c := by
  rw [Int.mul_comm, ← sumN_mul]; exact sumN_congr fun i _ => Int.mul_comm _ _
/-- The first term apart. -/
theorem sumN_first (n : Nat) (f : Nat → Int) : sumN (n + 1) f = f 0 + sumN n (fun i => f (i + 1)) := by
  induction n with
  | zero => simp [sumN]
  | succ n ih => show sumN (n + 1) f + f (n + 1) = f 0 + (sumN n (fun i => f (i + 1)) + f (n + 1)); rw [ih]; omega
theorem sumN_rev (n : Nat) (f : Nat → Int) : sumN n f = sumN n (fun i => f (n - 1 - i)) := by
  induction n generalizing f with
  | zero => rfl
  | succ n ih =>
    rw [sumN_first n f, ih (fun i => f (i + 1))]
    show f 0 + sumN n (fun i => f (n - 1 - i + 1)) = sumN n (fun i => f (n - i)) + f (n - n)
    rw [Nat.sub_self, Int.add_comm, sumN_congr (f := fun i => f (n - 1 - i + 1)) (g := fun i => f (n - i)) fun i hi => by congr 1; omega]
theorem sumN_ge {n m : Nat} (h : n ≤ m) {f : Nat → Int} (hz : ∀ i, n ≤ i → f i = 0) : sumN m f = sumN n f := by
  induction m with
  | zero =>
    obtain rfl : n = 0 := by omega
    rfl
  | succ m ih =>
    by_cases e : n = m + 1
    · subst e; rfl
    · show sumN m f + f m = sumN n f
      rw [ih (by omega), hz m (by omega)]; omega
/-- A double sum over a triangle, in either order. -/
theorem sumN_tri (n : Nat) (F : Nat → Nat → Int) : sumN n (fun i => sumN (i + 1) (fun j => F i j)) = sumN n (fun j => sumN (n - j) (fun k => F (j + k) j)) := by
  induction n with
  | zero => rfl
  | succ n ih =>
    show sumN n (fun i => sumN (i + 1) (fun j => F i j)) + sumN (n + 1) (fun j => F n j) = _
    rw [ih]
    have h1 : sumN (n + 1) (fun j => sumN (n + 1 - j) (fun k => F (j + k) j)) = sumN (n + 1) (fun j => sumN (n - j) (fun k => F (j + k) j) + F n j) := by
      apply sumN_congr
      intro j hj
      rw [show n + 1 - j = (n - j) + 1 by omega]
      show sumN (n - j) _ + F (j + (n - j)) j = _
      rw [show j + (n - j) = n by omega]
    rw [h1, sumN_add]
    congr 1
    show sumN n _ = sumN n _ + sumN (n - n) _
    rw [Nat.sub_self]
    simp [sumN]

/-- Sequences. -/
abbrev PS := Nat → Int
def padd (f g : PS) : PS := fun n => f n + g n
def psub (f g : PS) : PS := fun n => f n - g n
def psmul (c : Int) (f : PS) : PS := fun n => c * f n
def pmul (f g : PS) : PS := fun n => sumN (n + 1) (fun i => f i * g (n - i))
def pone : PS := fun n => if n = 0 then 1 else 0
def pzero : PS := fun _ => 0
theorem pmul_comm (f g : PS) : pmul f g = pmul g f := by
  funext n
  unfold pmul
  rw [sumN_rev]
  exact sumN_congr fun i hi => by rw [Int.mul_comm]; congr 2 <;> omega
theorem pmul_add (f g h : PS) : pmul f (padd g h) = padd (pmul f g) (pmul f h) := by
  funext n
  show sumN (n + 1) (fun i => f i * (g (n - i) + h (n - i))) = sumN (n + 1) _ + sumN (n + 1) _
  rw [← sumN_add]
  exact sumN_congr fun i _ => Int.mul_add _ _ _
theorem padd_mul (f g h : PS) : pmul (padd f g) h = padd (pmul f h) (pmul g h) := by
  rw [pmul_comm, pmul_add, pmul_comm h f, pmul_comm h g]
theorem pmul_psmul (c : Int) (f g : PS) : pmul f (psmul c g) = psmul c (pmul f g) := by
  funext n
  show sumN (n + 1) (fun i => f i * (c * g (n - i))) = c * sumN (n + 1) _
  rw [← sumN_mul]
  exact sumN_congr fun i _ => by rw [← Int.mul_assoc, Int.mul_comm (f i) c, Int.mul_assoc]
theorem psmul_pmul (c : Int) (f g : PS) : pmul (psmul c f) g = psmul c (pmul f g) := by
  rw [pmul_comm, pmul_psmul, pmul_comm]
theorem pmul_assoc (f g h : PS) : pmul (pmul f g) h = pmul f (pmul g h) := by
  funext n
  have h1 : pmul (pmul f g) h n = sumN (n + 1) (fun i => sumN (i + 1) (fun j => f j * g (i - j) * h (n - i))) := by
    apply sumN_congr
    intro i _
    show sumN (i + 1) (fun j => f j * g (i - j)) * h (n - i) = _
    rw [sumN_mul_right]
  rw [h1, sumN_tri]
  apply sumN_congr
  intro j hj
  show _ = f j * sumN (n - j + 1) (fun k => g k * h (n - j - k))
  rw [← sumN_mul, show n + 1 - j = n - j + 1 by omega]
  exact sumN_congr fun k hk => by
    rw [show j + k - j = k by omega, show n - (j + k) = n - j - k by omega, Int.mul_assoc]
theorem pone_mul (f : PS) : pmul pone f = f := by
  funext n
  show sumN (n + 1) (fun i => pone i * f (n - i)) = f n
  rw [sumN_first]
  have h1 : sumN n (fun i => pone (i + 1) * f (n - (i + 1))) = 0 := by
    rw [← sumN_zero n]
    exact sumN_congr fun i _ => by unfold pone; rw [if_neg (by omega), Int.zero_mul]
  rw [h1]
  unfold pone
  simp
theorem pmul_one (f : PS) : pmul f pone = f := by rw [pmul_comm, pone_mul]
theorem padd_comm (f g : PS) : padd f g = padd g f := by funext n; exact Int.add_comm _ _
theorem padd_assoc (f g h : PS) : padd (padd f g) h = padd f (padd g h) := by funext n; exact Int.add_assoc _ _ _
theorem pzero_mul (f : PS) : pmul pzero f = pzero := by
  funext n
  show sumN (n + 1) (fun i => 0 * f (n - i)) = 0
  exact (sumN_congr fun i _ => Int.zero_mul _).trans (sumN_zero (n + 1))

/-- Equal modulo p. -/
def Eqp (p : Int) (f g : PS) : Prop := ∀ n, f n % p = g n % p
theorem Eqp.refl {p : Int} (f : PS) : Eqp p f f := fun _ => rfl
theorem Eqp.symm {p : Int} {f g : PS} (h : Eqp p f g) : Eqp p g f := fun n => (h n).symm
theorem Eqp.trans {p : Int} {f g k : PS} (h : Eqp p f g) (h2 : Eqp p g k) : Eqp p f k := fun n => (h n).trans (h2 n)
theorem Eqp.of_eq {p : Int} {f g : PS} (h : f = g) : Eqp p f g := h ▸ Eqp.refl f
theorem emod_add_congr {p a b c d : Int} (h : a % p = b % p) (k : c % p = d % p) : (a + c) % p = (b + d) % p := by
  rw [Int.add_emod, h, k, ← Int.add_emod]
theorem emod_mul_congr {p a b c d : Int} (h : a % p = b % p) (k : c % p = d % p) : (a * c) % p = (b * d) % p := by
  rw [Int.mul_emod, h, k, ← Int.mul_emod]
theorem emod_sub_congr {p a b c d : Int} (h : a % p = b % p) (k : c % p = d % p) : (a - c) % p = (b - d) % p := by
  rw [Int.sub_emod, h, k, ← Int.sub_emod]
theorem Eqp.add {p : Int} {f g f' g' : PS} (h : Eqp p f f') (k : Eqp p g g') : Eqp p (padd f g) (padd f' g') := fun n => emod_add_congr (h n) (k n)
theorem Eqp.sub {p : Int} {f g f' g' : PS} (h : Eqp p f f') (k : Eqp p g g') : Eqp p (psub f g) (psub f' g') := fun n => emod_sub_congr (h n) (k n)
theorem Eqp.smul {p c : Int} {f f' : PS} (h : Eqp p f f') : Eqp p (psmul c f) (psmul c f') := fun n => emod_mul_congr rfl (h n)
theorem sumN_emod {p : Int} {n : Nat} {f g : Nat → Int} (h : ∀ i, i < n → f i % p = g i % p) : sumN n f % p = sumN n g % p := by
  induction n with
  | zero => rfl
  | succ n ih => exact emod_add_congr (ih fun i hi => h i (by omega)) (h n (by omega))
theorem Eqp.mul {p : Int} {f g f' g' : PS} (h : Eqp p f f') (k : Eqp p g g') : Eqp p (pmul f g) (pmul f' g') := fun n =>
  sumN_emod fun i _ => emod_mul_congr (h i) (k (n - i))

/-- No coefficients from n on. -/
def Fin0 (f : PS) (n : Nat) : Prop := ∀ i, n ≤ i → f i = 0
theorem Fin0.mul {f g : PS} {n m : Nat} (hf : Fin0 f n) (hg : Fin0 g m) : ∀ i, n + m ≤ i + 1 → pmul f g i = 0 := by
  intro i hi
  show sumN (i + 1) (fun j => f j * g (i - j)) = 0
  rw [← sumN_zero (i + 1)]
  exact sumN_congr fun j _ => by
    by_cases h : n ≤ j
    · rw [hf j h, Int.zero_mul]
    · rw [hg (i - j) (by omega), Int.mul_zero]
theorem sumN_single {n k : Nat} (hk : k < n) {f : Nat → Int} (h : ∀ i, i < n → i ≠ k → f i = 0) : sumN n f = f k := by
  induction n with
  | zero => omega
  | succ n ih =>
    show sumN n f + f n = f k
    by_cases e : k = n
    · subst e
      have : sumN k f = 0 := by rw [← sumN_zero k]; exact sumN_congr fun i hi => h i (by omega) (by omega)
      omega
    · rw [ih (by omega) fun i hi hne => h i (by omega) hne, h n (by omega) (by omega)]; omega
/-- The top coefficient of a product. -/
theorem top_mul {f g : PS} {n m : Nat} (hf : Fin0 f (n + 1)) (hg : Fin0 g (m + 1)) : pmul f g (n + m) = f n * g m := by
  show sumN (n + m + 1) (fun j => f j * g (n + m - j)) = _
  rw [sumN_single (k := n) (by omega) fun i _ hne => by
    by_cases h : n + 1 ≤ i
    · rw [hf i h, Int.zero_mul]
    · rw [hg (n + m - i) (by omega), Int.mul_zero]]
  rw [show n + m - n = m by omega]
theorem cf_Fin0 (a : List Int) : Fin0 (cf a) a.length := fun i hi => cf_ge a i hi

/-- The sum a + t b. -/
def addp (p : Int) (a b : List Int) (t : Int) : List Int := mkp (max a.length b.length) (fun i => (cf a i + t * cf b i) % p)
theorem addp_cf {p : Int} (a b : List Int) (t : Int) (i : Nat) : cf (addp p a b t) i = (cf a i + t * cf b i) % p := by
  unfold addp; rw [mkp_cf]
  split
  · rfl
  · rw [cf_ge a i (by omega), cf_ge b i (by omega)]; simp
theorem addp_Po {p : Int} (hp : 0 < p) (a b : List Int) (t : Int) : Po p (addp p a b t) :=
  ⟨mkp_Tr _ _, fun i => by rw [addp_cf]; exact ⟨Int.emod_nonneg _ (by omega), Int.emod_lt_of_pos _ hp⟩⟩
theorem addp_length (p : Int) (a b : List Int) (t : Int) : (addp p a b t).length ≤ max a.length b.length := mkp_length _ _
theorem addp_eqp (p : Int) (a b : List Int) (t : Int) : Eqp p (cf (addp p a b t)) (padd (cf a) (psmul t (cf b))) := fun n => by
  rw [addp_cf, Int.emod_emod_of_dvd _ (Int.dvd_refl p)]; rfl

/-- The product. -/
def mulp (p : Int) (a b : List Int) : List Int := mkp (a.length + b.length) (fun n => pmul (cf a) (cf b) n % p)
theorem mulp_cf {p : Int} (a b : List Int) (n : Nat) : cf (mulp p a b) n = pmul (cf a) (cf b) n % p := by
  unfold mulp; rw [mkp_cf]
  split
  · rfl
  · rw [Fin0.mul (cf_Fin0 a) (cf_Fin0 b) n (by omega)]; simp
theorem mulp_Po {p : Int} (hp : 0 < p) (a b : List Int) : Po p (mulp p a b) :=
  ⟨mkp_Tr _ _, fun i => by rw [mulp_cf]; exact ⟨Int.emod_nonneg _ (by omega), Int.emod_lt_of_pos _ hp⟩⟩
theorem mulp_eqp (p : Int) (a b : List Int) : Eqp p (cf (mulp p a b)) (pmul (cf a) (cf b)) := fun n => by
  rw [mulp_cf, Int.emod_emod_of_dvd _ (Int.dvd_refl p)]
theorem Po.eq_of_eqp {p : Int} {a b : List Int} (ha : Po p a) (hb : Po p b) (h : Eqp p (cf a) (cf b)) : a = b :=
  ha.ext hb fun i => by
    have := h i
    rwa [Int.emod_eq_of_lt (ha.md i).1 (ha.md i).2, Int.emod_eq_of_lt (hb.md i).1 (hb.md i).2] at this

/-- Products of numbers modulo a prime. -/
theorem pr_mul_ne {p x y : Int} (hp : Pr p) (hx : 0 < x) (hx1 : x < p) (hy : 0 < y) (hy1 : y < p) : x * y % p ≠ 0 := by
  have hp2 := hp.pos
  obtain ⟨X, rfl⟩ := Int.eq_ofNat_of_zero_le (show 0 ≤ x by omega)
  obtain ⟨Y, rfl⟩ := Int.eq_ofNat_of_zero_le (show 0 ≤ y by omega)
  intro h
  have h' : ((X * Y : Nat) : Int) % p = 0 := by simpa using h
  rcases hp with rfl | rfl | rfl | rfl
  · have key : ∀ X Y : Fin 2, 0 < X.val → 0 < Y.val → X.val * Y.val % 2 ≠ 0 := by decide
    exact key ⟨X, by omega⟩ ⟨Y, by omega⟩ (by simp; omega) (by simp; omega) (by simp only []; omega)
  · have key : ∀ X Y : Fin 3, 0 < X.val → 0 < Y.val → X.val * Y.val % 3 ≠ 0 := by decide
    exact key ⟨X, by omega⟩ ⟨Y, by omega⟩ (by simp; omega) (by simp; omega) (by simp only []; omega)
  · have key : ∀ X Y : Fin 5, 0 < X.val → 0 < Y.val → X.val * Y.val % 5 ≠ 0 := by decide
    exact key ⟨X, by omega⟩ ⟨Y, by omega⟩ (by simp; omega) (by simp; omega) (by simp only []; omega)
  · have key : ∀ X Y : Fin 7, 0 < X.val → 0 < Y.val → X.val * Y.val % 7 ≠ 0 := by decide
    exact key ⟨X, by omega⟩ ⟨Y, by omega⟩ (by simp; omega) (by simp; omega) (by simp only []; omega)

theorem mulp_nil (p : Int) (b : List Int) : mulp p [] b = [] :=
  Tr_ext (mkp_Tr _ _) Tr_nil fun n => by
    rw [mulp_cf, cf_nil, show cf ([] : List Int) = pzero by funext i; exact cf_nil i, pzero_mul]
    show (0 : Int) % p = 0
    simp
theorem mulp_comm (p : Int) (a b : List Int) : mulp p a b = mulp p b a :=
  Tr_ext (mkp_Tr _ _) (mkp_Tr _ _) fun n => by rw [mulp_cf, mulp_cf, pmul_comm]
theorem mulp_nil_right (p : Int) (a : List Int) : mulp p a [] = [] := by rw [mulp_comm, mulp_nil]
/-- The degree of a product. -/
theorem mulp_length {p : Int} (hp : Pr p) {a b : List Int} (ha : Po p a) (hb : Po p b) (h1 : a ≠ []) (h2 : b ≠ []) : (mulp p a b).length + 1 = a.length + b.length := by
  have l1 : 0 < a.length := List.length_pos_iff.2 h1
  have l2 : 0 < b.length := List.length_pos_iff.2 h2
  have hle : (mulp p a b).length ≤ a.length + b.length - 1 := Tr_length_le (mkp_Tr _ _) fun i hi => by
    show cf (mulp p a b) i = 0
    rw [mulp_cf, Fin0.mul (cf_Fin0 a) (cf_Fin0 b) i (by omega)]; simp
  have hne : cf (mulp p a b) (a.length - 1 + (b.length - 1)) ≠ 0 := by
    rw [mulp_cf, top_mul (fun i hi => cf_ge a i (by omega)) (fun i hi => cf_ge b i (by omega))]
    exact pr_mul_ne hp (ha.lead h1) (ha.md _).2 (hb.lead h2) (hb.md _).2
  by_cases h : (mulp p a b).length ≤ a.length - 1 + (b.length - 1)
  · exact absurd (cf_ge _ _ h) hne
  · omega

end Go.Proofs.Ythkkicanockhgaa

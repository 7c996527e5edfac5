/- Plain lists of coefficients: trimming, reading at a place, equality by coefficients. No program in sight. -/
namespace Go.Proofs.Ythkkicanockhgaa

/-- The coefficient at a place, 0 behind the end. -/
def cf (a : List Int) (i : Nat) : Int := a.getD i 0

/-- A list without zeros at its end. -/
def trim : List Int → List Int
  | [] => []
  | x :: xs => if trim xs = [] ∧ x = 0 then [] else x :: trim xs

/-- No zero at the end. -/
def Tr (a : List Int) : Prop := a.length = 0 ∨ cf a (a.length - 1) ≠ 0

/-- The trimmed list of the first n values of a function. -/
def mkp (n : Nat) (f : Nat → Int) : List Int := trim ((List.range n).map f)

theorem cf_nil (i : Nat) : cf [] i = 0 := by simp [cf]
theorem cf_cons_zero (x : Int) (xs : List Int) : cf (x :: xs) 0 = x := by simp [cf]
theorem cf_cons_succ (x : Int) (xs : List Int) (i : Nat) : cf (x :: xs) (i + 1) = cf xs i := by simp [cf]
theorem cf_ge (a : List Int) (i : Nat) (h : a.length ≤ i) : cf a i = 0 := by
  unfold cf; rw [List.getD_eq_getElem?_getD, List.getElem?_eq_none h]; rfl
theorem cf_lt (a : List Int) (i : Nat) (h : i < a.length) : cf a i = a[i] := by
  unfold cf; rw [List.getD_eq_getElem?_getD, List.getElem?_eq_getElem h]; rfl
theorem cf_mem (a : List Int) (i : Nat) (h : i < a.length) : cf a i ∈ a := by
  rw [cf_lt a i h]; exact List.getElem_mem h

theorem cf_map_range (n : Nat) (f : Nat → Int) (i : Nat) : cf ((List.range n).map f) i = if i < n then f i else 0 := by
  unfold cf
  rw [List.getD_eq_getElem?_getD, List.getElem?_map]
  by_cases h : i < n
  · rw [if_pos h, List.getElem?_range h]; rfl
  · rw [if_neg h, List.getElem?_eq_none (by simpa using h)]; rfl

theorem list_ext_cf {a b : List Int} (hl : a.length = b.length) (h : ∀ i, cf a i = cf b i) : a = b := by
  apply List.ext_getElem hl
  intro i h1 h2
  have := h i
  rwa [cf_lt a i h1, cf_lt b i h2] at this

theorem trim_cf (a : List Int) : ∀ i, cf (trim a) i = cf a i := by
  induction a with
  | nil => intro i; rfl
  | cons x xs ih =>
    intro i
    unfold trim
    by_cases h : trim xs = [] ∧ x = 0
    · rw [if_pos h, cf_nil]
      cases i with
      | zero => rw [cf_cons_zero]; exact h.2.symm
      | succ i => rw [cf_cons_succ, ← ih i, h.1, cf_nil]
    · rw [if_neg h]
      cases i with
      | zero => rw [cf_cons_zero, cf_cons_zero]
      | succ i => rw [cf_cons_succ, cf_cons_succ, ih i]

theorem trim_length_le (a : List Int) : (trim a).length ≤ a.length := by
  induction a with
  | nil => simp [trim]
  | cons x xs ih =>
    unfold trim
    split
    · simp
    · simp; exact ih

theorem Tr_nil : Tr [] := Or.inl rfl

theorem Tr_cons {x : Int} {xs : List Int} (h : Tr xs) (hx : xs ≠ [] ∨ x ≠ 0) : Tr (x :: xs) := by
  right
  cases xs with
  | nil => simp at hx; simpa [cf] using hx
  | cons y ys =>
    rcases h with h | h
    · simp at h
    · simp only [List.length_cons, Nat.add_sub_cancel] at h ⊢
      rw [cf_cons_succ]; exact h

theorem trim_Tr (a : List Int) : Tr (trim a) := by
  induction a with
  | nil => exact Tr_nil
  | cons x xs ih =>
    unfold trim
    by_cases h : trim xs = [] ∧ x = 0
    · rw [if_pos h]; exact Tr_nil
    · rw [if_neg h]
      refine Tr_cons ih ?_
      by_cases h1 : trim xs = []
      · right; exact fun h2 => h ⟨h1, h2⟩
      · left; exact h1

/-- A trimmed list is as long as its coefficients tell. -/
theorem Tr_length_le {a : List Int} (h : Tr a) {n : Nat} (hn : ∀ i, n ≤ i → cf a i = 0) : a.length ≤ n := by
  rcases h with h | h
  · omega
  · by_cases hl : a.length ≤ n
    · exact hl
    · exact absurd (hn (a.length - 1) (by omega)) h

theorem Tr_ext {a b : List Int} (ha : Tr a) (hb : Tr b) (h : ∀ i, cf a i = cf b i) : a = b := by
  have h1 : a.length ≤ b.length := Tr_length_le ha fun i hi => by rw [h i]; exact cf_ge b i hi
  have h2 : b.length ≤ a.length := Tr_length_le hb fun i hi => by rw [← h i]; exact cf_ge a i hi
  exact list_ext_cf (by omega) h

theorem trim_of_Tr {a : List Int} (h : Tr a) : trim a = a := Tr_ext (trim_Tr a) h (trim_cf a)

theorem trim_eq_nil_iff (a : List Int) : trim a = [] ↔ ∀ i, cf a i = 0 := by
  constructor
  · intro h i; rw [← trim_cf, h, cf_nil]
  · intro h
    exact Tr_ext (trim_Tr a) Tr_nil fun i => by rw [trim_cf, h, cf_nil]

theorem trim_congr {a b : List Int} (h : ∀ i, cf a i = cf b i) : trim a = trim b :=
  Tr_ext (trim_Tr a) (trim_Tr b) fun i => by rw [trim_cf, trim_cf, h]

theorem cf_take (a : List Int) (n i : Nat) : cf (a.take n) i = if i < n then cf a i else 0 := by
  unfold cf
  rw [List.getD_eq_getElem?_getD, List.getD_eq_getElem?_getD, List.getElem?_take]
  split <;> rfl

/-- What the program's loop from the end finds. -/
theorem trim_eq_take (a : List Int) (n : Nat) (hn : n ≤ a.length) (hz : ∀ i, n ≤ i → cf a i = 0) (hl : n = 0 ∨ cf a (n - 1) ≠ 0) : trim a = a.take n := by
  refine Tr_ext (trim_Tr a) ?_ ?_
  · have hlen : (a.take n).length = n := by simp; omega
    rcases hl with h | h
    · left; omega
    · by_cases h0 : n = 0
      · left; omega
      · right; rw [hlen, cf_take, if_pos (by omega)]; exact h
  · intro i
    rw [trim_cf, cf_take]
    split
    · rfl
    · exact hz i (by omega)

theorem mkp_cf (n : Nat) (f : Nat → Int) (i : Nat) : cf (mkp n f) i = if i < n then f i else 0 := by
  unfold mkp; rw [trim_cf, cf_map_range]
theorem mkp_Tr (n : Nat) (f : Nat → Int) : Tr (mkp n f) := trim_Tr _
theorem mkp_length (n : Nat) (f : Nat → Int) : (mkp n f).length ≤ n := by
  unfold mkp; have := trim_length_le ((List.range n).map f); simpa using this
/-- Two such lists, by their coefficients. -/
theorem mkp_ext {n m : Nat} {f g : Nat → Int} (h : ∀ i, (if i < n then f i else 0) = (if i < m then g i else 0)) : mkp n f = mkp m g :=
  Tr_ext (mkp_Tr n f) (mkp_Tr m g) fun i => by rw [mkp_cf, mkp_cf, h]
theorem mkp_eq {n : Nat} {f : Nat → Int} {a : List Int} (ha : Tr a) (h : ∀ i, (if i < n then f i else 0) = cf a i) : mkp n f = a :=
  Tr_ext (mkp_Tr n f) ha fun i => by rw [mkp_cf, h]

/-- All coefficients are numbers modulo p. -/
def Md (p : Int) (a : List Int) : Prop := ∀ i, 0 ≤ cf a i ∧ cf a i < p
theorem Md_of_mem {p : Int} (hp : 0 < p) {a : List Int} (h : ∀ x ∈ a, 0 ≤ x ∧ x < p) : Md p a := fun i => by
  by_cases hi : i < a.length
  · exact h _ (cf_mem a i hi)
  · rw [cf_ge a i (by omega)]; omega
theorem Md_nil {p : Int} (hp : 0 < p) : Md p [] := fun i => by rw [cf_nil]; omega
theorem Md_trim {p : Int} {a : List Int} (h : Md p a) : Md p (trim a) := fun i => by rw [trim_cf]; exact h i
theorem Md_mkp {p : Int} (hp : 0 < p) {n : Nat} {f : Nat → Int} (h : ∀ i, i < n → 0 ≤ f i ∧ f i < p) : Md p (mkp n f) := fun i => by
  rw [mkp_cf]; split
  · exact h i ‹_›
  · omega

/-- A polynomial for p: trimmed, and modulo p. -/
structure Po (p : Int) (a : List Int) : Prop where
  tr : Tr a
  md : Md p a
theorem Po_nil {p : Int} (hp : 0 < p) : Po p [] := ⟨Tr_nil, Md_nil hp⟩
theorem Po.ext {p : Int} {a b : List Int} (ha : Po p a) (hb : Po p b) (h : ∀ i, cf a i = cf b i) : a = b := Tr_ext ha.tr hb.tr h
theorem Po.lead {p : Int} {a : List Int} (ha : Po p a) (h : a ≠ []) : 0 < cf a (a.length - 1) := by
  have h1 := ha.md (a.length - 1)
  rcases ha.tr with h2 | h2
  · exact absurd (List.length_eq_zero_iff.1 h2) h
  · omega
theorem Po.lead_len {p : Int} {a : List Int} (ha : Po p a) (h : 0 < a.length) : 0 < cf a (a.length - 1) :=
  ha.lead (fun e => by rw [e] at h; simp at h)

/-- The primes that the program knows. -/
def Pr (p : Int) : Prop := p = 2 ∨ p = 3 ∨ p = 5 ∨ p = 7
theorem Pr.pos {p : Int} (h : Pr p) : 2 ≤ p ∧ p ≤ 7 := by unfold Pr at h; omega
instance (p : Int) : Decidable (Pr p) := by unfold Pr; infer_instance

end Go.Proofs.Ythkkicanockhgaa

/- A polynomial put in the place of T: its length, and what it is for a number. No program in sight. -/
import Derived.Test.YthkkicanockhgaaBez
namespace Go.Proofs.Ythkkicanockhgaa

theorem mkp_of_Tr {n : Nat} {xs : List Int} (h : Tr xs) (hl : xs.length ≤ n) : mkp n (cf xs) = xs :=
  mkp_eq h fun i => by
    split
    · rfl
    · rw [cf_ge xs i (by omega)]
theorem Tr_tail {c : Int} {tl : List Int} (h : Tr (c :: tl)) : Tr tl := by
  by_cases e : tl.length = 0
  · exact .inl e
  · right
    rcases h with h | h
    · simp at h
    · rw [List.length_cons, Nat.add_sub_cancel] at h
      obtain ⟨n, hn⟩ : ∃ n, tl.length = n + 1 := ⟨tl.length - 1, by omega⟩
      rw [hn] at h ⊢
      rw [cf_cons_succ] at h
      exact h
theorem Po_tail {p c : Int} {tl : List Int} (h : Po p (c :: tl)) : Po p tl := ⟨Tr_tail h.tr, fun i => by have := h.md (i + 1); rwa [cf_cons_succ] at this⟩
theorem Po_drop {p : Int} (hp : 0 < p) {xs : List Int} (h : Po p xs) (n : Nat) : Po p (xs.drop n) := by
  induction n generalizing xs with
  | zero => exact h
  | succ n ih =>
    cases xs with
    | nil => exact Po_nil hp
    | cons c tl => exact ih (Po_tail h)

def cmpp (p : Int) (ys : List Int) : List Int → List Int
  | [] => []
  | c :: tl => addp p (mulp p (cmpp p ys tl) ys) [c] 1
theorem cmpp_Po {p : Int} (hp : 0 < p) (ys : List Int) : ∀ xs, Po p (cmpp p ys xs)
  | [] => Po_nil hp
  | _ :: _ => addp_Po hp _ _ _
theorem drop_cons (xs : List Int) (i : Nat) (h : i < xs.length) : xs.drop i = cf xs i :: xs.drop (i + 1) := by
  rw [List.drop_eq_getElem_cons h, cf_lt xs i h]
theorem cmpp_drop (p : Int) (ys xs : List Int) (i : Nat) (h : i < xs.length) : cmpp p ys (xs.drop i) = addp p (mulp p (cmpp p ys (xs.drop (i + 1))) ys) [cf xs i] 1 := by
  rw [drop_cons xs i h]; rfl
theorem cmpp_length {p : Int} (hp : Pr p) {ys : List Int} (hy : Po p ys) (h2 : 2 ≤ ys.length) : ∀ xs, Po p xs → xs ≠ [] → (cmpp p ys xs).length = (xs.length - 1) * (ys.length - 1) + 1
  | [], _, h => absurd rfl h
  | c :: tl, hx, _ => by
    have hp2 := hp.pos
    have hyn : ys ≠ [] := fun e => by rw [e] at h2; simp at h2
    have hPo := cmpp_Po (p := p) (by omega) ys (c :: tl)
    by_cases e : tl = []
    · subst e
      have hc : cf [c] 0 ≠ 0 := by rcases hx.tr with h | h; (· simp at h); exact h
      have hc1 := hx.md 0
      rw [cf_cons_zero] at hc hc1
      have e1 : cmpp p ys [c] = addp p (mulp p [] ys) [c] 1 := rfl
      have h1 : cf (cmpp p ys [c]) 0 ≠ 0 := by
        rw [e1, addp_cf, mulp_nil, cf_nil, cf_cons_zero, Int.emod_eq_of_lt (by omega) (by omega)]; omega
      have h3 : (cmpp p ys [c]).length ≤ 1 := by
        rw [e1, mulp_nil]; have := addp_length p [] [c] 1; simpa using this
      simp only [List.length_cons, List.length_nil, Nat.zero_add, Nat.sub_self, Nat.zero_mul]
      by_cases h4 : (cmpp p ys [c]).length = 0
      · exact absurd (cf_ge _ 0 (by omega)) h1
      · omega
    · have ih := cmpp_length hp hy h2 tl (Po_tail hx) e
      have hl : 0 < tl.length := List.length_pos_iff.2 e
      have hne : cmpp p ys tl ≠ [] := fun h => by rw [h] at ih; simp at ih
      have hm := mulp_length hp (cmpp_Po (p := p) (by omega) ys tl) hy hne hyn
      have hmP := mulp_Po (p := p) (by omega) (cmpp p ys tl) ys
      have e1 : cmpp p ys (c :: tl) = addp p (mulp p (cmpp p ys tl) ys) [c] 1 := rfl
      have hle := addp_length p (mulp p (cmpp p ys tl) ys) [c] 1
      have hge : ¬ (cmpp p ys (c :: tl)).length ≤ (mulp p (cmpp p ys tl) ys).length - 1 := fun hh => by
        have h0 := cf_ge _ _ hh
        rw [e1, addp_cf, cf_ge [c] _ (by simp; omega)] at h0
        have h5 := hmP.lead_len (by omega)
        have h6 := hmP.md ((mulp p (cmpp p ys tl) ys).length - 1)
        rw [Int.mul_zero, Int.add_zero, Int.emod_eq_of_lt h6.1 h6.2] at h0
        omega
      rw [← e1] at hle
      have e3 : max (mulp p (cmpp p ys tl) ys).length [c].length = (mulp p (cmpp p ys tl) ys).length := by
        rw [Nat.max_def]; split <;> simp_all <;> omega
      rw [e3] at hle
      have e4 : (c :: tl).length - 1 = (tl.length - 1) + 1 := by simp; omega
      rw [e4, Nat.add_mul, Nat.one_mul]
      omega
/-- A number as a polynomial. -/
theorem one_cf (c : Int) (i : Nat) : cf [c] i = if i = 0 then c else 0 := by
  cases i with
  | zero => rw [cf_cons_zero, if_pos rfl]
  | succ i => rw [cf_cons_succ, cf_nil, if_neg (by omega)]
theorem trim_one_cf (c : Int) (i : Nat) : cf (trim [c]) i = if i = 0 then c else 0 := by rw [trim_cf, one_cf]
theorem pmul_one_left {f g : PS} (hf : ∀ i, 0 < i → f i = 0) (n : Nat) : pmul f g n = f 0 * g n := by
  show sumN (n + 1) (fun i => f i * g (n - i)) = _
  rw [sumN_single (k := 0) (by omega) fun i _ hne => by rw [hf i (by omega), Int.zero_mul]]; rfl
theorem mulp_one_cf (p u : Int) {a : List Int} (ha : ∀ i, cf a i = if i = 0 then u else 0) (b : List Int) (n : Nat) : cf (mulp p a b) n = u * cf b n % p := by
  rw [mulp_cf, pmul_one_left (fun i hi => by rw [ha i, if_neg (by omega)]), ha 0, if_pos rfl]
theorem short_cf {ys : List Int} (h : ys.length ≤ 1) (i : Nat) : cf ys i = if i = 0 then cf ys 0 else 0 := by
  by_cases e : i = 0
  · rw [if_pos e, e]
  · rw [if_neg e, cf_ge ys i (by omega)]
def evl (p x : Int) : List Int → Int
  | [] => 0
  | a :: tl => (evl p x tl * x + a) % p
theorem cmpp_short {p : Int} (hp : Pr p) {ys : List Int} (h : ys.length ≤ 1) : ∀ (xs : List Int) (i : Nat), cf (cmpp p ys xs) i = if i = 0 then evl p (cf ys 0) xs else 0
  | [], i => by show cf [] i = if i = 0 then 0 else 0; rw [cf_nil]; split <;> rfl
  | c :: tl, i => by
    have e1 : cmpp p ys (c :: tl) = addp p (mulp p (cmpp p ys tl) ys) [c] 1 := rfl
    rw [e1, addp_cf, mulp_one_cf p _ (cmpp_short hp h tl), one_cf, short_cf h i]
    by_cases e : i = 0
    · rw [if_pos e, if_pos e, if_pos e, Int.emod_add_emod, Int.one_mul]; rfl
    · rw [if_neg e, if_neg e, if_neg e]; simp
end Go.Proofs.Ythkkicanockhgaa

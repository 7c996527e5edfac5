/- The greatest common divisor with its factors, as the program reckons them; how long they are. No program in sight. -/
import Derived.Test.YthkkicanockhgaaDiv
namespace Go.Proofs.Ythkkicanockhgaa

/-- The loop: the rests with their factors. -/
def bzl (p : Int) : Nat → List Int → List Int → List Int → List Int → List Int → List Int → List Int × List Int × List Int
  | 0, a, _, u, _, v, _ => (a, u, v)
  | n + 1, a, b, u, x, v, y =>
    if b = [] then (a, u, v)
    else bzl p n b (divp p a b).2 x (addp p u (mulp p (divp p a b).1 x) (-1)) y (addp p v (mulp p (divp p a b).1 y) (-1))

def scl (p : Int) (a : List Int) (t : Int) : List Int := addp p [] a t
def bez (p : Int) (a b : List Int) : List Int × List Int × List Int :=
  let r := bzl p (b.length + 1) a b [1] [] [] [1]
  let i := invp p (cf r.1 (r.1.length - 1))
  (scl p r.1 i, scl p r.2.1 i, scl p r.2.2 i)

/-- How long a factor may be, beside the two rests. -/
structure BzI (B : Nat) (a b u x : List Int) : Prop where
  hu : u = [] ∨ u.length + b.length ≤ B + 1
  hx : x = [] ∨ (x.length ≤ 64 ∧ x.length + a.length ≤ B + 1)
  hl : u.length ≤ 64

theorem divp_rest_le (p : Int) (a b : List Int) : (divp p a b).2.length ≤ a.length := mkp_length _ _
theorem divp_quot_le (p : Int) (a b : List Int) : (divp p a b).1.length ≤ a.length - (b.length - 1) := mkp_length _ _

theorem mulp_len {p : Int} (hp : Pr p) {a b : List Int} (ha : Po p a) (hb : Po p b) : mulp p a b = [] ∨ (a ≠ [] ∧ b ≠ [] ∧ (mulp p a b).length + 1 = a.length + b.length) := by
  by_cases h1 : a = []
  · left; rw [h1, mulp_nil]
  · by_cases h2 : b = []
    · left; rw [h2, mulp_nil_right]
    · right; exact ⟨h1, h2, mulp_length hp ha hb h1 h2⟩

theorem BzI.step {p : Int} (hp : Pr p) {B : Nat} (hB : B ≤ 64) {a b u x : List Int} (hpa : Po p a) (hpb : Po p b) (hpx : Po p x) (hb : b ≠ []) (h : BzI B a b u x) :
    BzI B b (divp p a b).2 x (addp p u (mulp p (divp p a b).1 x) (-1)) := by
  have hlb : 0 < b.length := List.length_pos_iff.2 hb
  have hq := (divp_spec hp hpa hpb hb).1
  have hql := divp_quot_le p a b
  have hrl := divp_rest_le p a b
  have hal := addp_length p u (mulp p (divp p a b).1 x) (-1)
  refine ⟨?_, ?_, ?_⟩
  · rcases h.hx with h1 | ⟨_, h1⟩
    · left; exact h1
    · right; omega
  · have hqx : (mulp p (divp p a b).1 x).length + b.length ≤ B + 1 ∨ mulp p (divp p a b).1 x = [] := by
      rcases mulp_len hp hq hpx with h1 | ⟨h1, h2, h3⟩
      · right; exact h1
      · left
        have hq0 : 0 < (divp p a b).1.length := List.length_pos_iff.2 h1
        rcases h.hx with h4 | ⟨_, h4⟩
        · exact absurd h4 h2
        · omega
    rcases hqx with h1 | h1
    · right
      rcases h.hu with h2 | h2
      · rw [h2] at hal ⊢
        simp only [List.length_nil] at hal
        omega
      · omega
    · rcases h.hu with h2 | h2
      · left
        rw [h1, h2] at hal ⊢
        exact List.length_eq_zero_iff.1 (by simpa using hal)
      · right
        rw [h1] at hal ⊢
        simp only [List.length_nil] at hal
        omega
  · rcases h.hx with h1 | ⟨h1, h2⟩
    · rw [h1]; simp
    · omega

theorem divp_Po {p : Int} (hp : Pr p) {a b : List Int} (ha : Po p a) (hb : Po p b) (hne : b ≠ []) : Po p (divp p a b).1 ∧ Po p (divp p a b).2 ∧ (divp p a b).2.length < b.length :=
  ⟨(divp_spec hp ha hb hne).1, (divp_spec hp ha hb hne).2.1, (divp_spec hp ha hb hne).2.2.1⟩

/-- What the loop keeps. -/
structure BzS (p : Int) (A B : Nat) (a b u x v y : List Int) : Prop where
  pa : Po p a
  pb : Po p b
  pu : Po p u
  px : Po p x
  pv : Po p v
  py : Po p y
  iu : BzI B a b u x
  iv : BzI A a b v y
  la : a.length ≤ 64
  lb : b.length ≤ 64
  ne : a ≠ [] ∨ b ≠ []
theorem BzS.step {p : Int} (hp : Pr p) {A B : Nat} (hA : A ≤ 64) (hB : B ≤ 64) {a b u x v y : List Int} (h : BzS p A B a b u x v y) (hb : b ≠ []) :
    BzS p A B b (divp p a b).2 x (addp p u (mulp p (divp p a b).1 x) (-1)) y (addp p v (mulp p (divp p a b).1 y) (-1)) := by
  have hp2 := hp.pos
  obtain ⟨h1, h2, h3⟩ := divp_Po hp h.pa h.pb hb
  exact ⟨h.pb, h2, h.px, addp_Po (by omega) _ _ _, h.py, addp_Po (by omega) _ _ _, h.iu.step hp hB h.pa h.pb h.px hb, h.iv.step hp hA h.pa h.pb h.py hb, h.lb,
    Nat.le_trans (divp_rest_le p a b) h.la, Or.inl hb⟩
/-- The products of the loop are within the limit of degrees. -/
theorem BzI.prod {p : Int} {B : Nat} (hB : B ≤ 64) {a b u x : List Int} (hb : b ≠ []) (h : BzI B a b u x) :
    (divp p a b).1 = [] ∨ x = [] ∨ (divp p a b).1.length + x.length ≤ 65 := by
  have hlb : 0 < b.length := List.length_pos_iff.2 hb
  have hql := divp_quot_le p a b
  by_cases h1 : (divp p a b).1 = []
  · left; exact h1
  · right
    have hq0 : 0 < (divp p a b).1.length := List.length_pos_iff.2 h1
    rcases h.hx with h2 | ⟨_, h2⟩
    · left; exact h2
    · right; omega

theorem one_Po {p : Int} (hp : 2 ≤ p) : Po p [1] :=
  ⟨Or.inr (by simp [cf]), fun i => by
    cases i with
    | zero => rw [cf_cons_zero]; omega
    | succ i => rw [cf_cons_succ, cf_nil]; omega⟩
theorem BzS.start {p : Int} (hp : Pr p) {a b : List Int} (ha : Po p a) (hb : Po p b) (la : a.length ≤ 64) (lb : b.length ≤ 64) (hne : a ≠ [] ∨ b ≠ []) :
    BzS p a.length b.length a b [1] [] [] [1] := by
  have hp2 := hp.pos
  refine ⟨ha, hb, one_Po hp2.1, Po_nil (by omega), Po_nil (by omega), one_Po hp2.1, ⟨Or.inr (by simp; omega), Or.inl rfl, by simp⟩, ?_, la, lb, hne⟩
  exact ⟨Or.inl rfl, Or.inr (by simp; omega), by simp⟩
end Go.Proofs.Ythkkicanockhgaa

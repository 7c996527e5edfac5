/- Several texts in one: A7, S5, S6, S7. -/
import Derived.Test.YtnkkkgaojhkniaaRws
import Derived.Test.YtnkkkgaojhkniaaPure
import Derived.Test.YtnkkkgaojhkniaaSpc
import Derived.Test.YtnkkkgaojhkniaaRegs
set_option linter.unusedVariables false
set_option linter.unusedSimpArgs false
/- Walks: a row put in the place of T. -/
namespace Go.Proofs.Ytnkkkgaojhkniaa
open Go.RowKit
theorem zInt : (Try.prog.info? 2).bind (·.zero) = some (.int .i64 0) := by kernel_rfl
theorem uInt : Try.prog.underlying 2 = some (.int .i64) := by kernel_rfl
theorem cmpp_len_le (p : Int) (ys : List Int) : ∀ xs : List Int, (cmpp p ys xs).length ≤ xs.length * ys.length + 1
  | [] => by show ([] : List Int).length ≤ _; simp
  | c :: tl => by
    have ih := cmpp_len_le p ys tl
    have h1 := addp_length p (mulp p (cmpp p ys tl) ys) [c] 1
    have h2 := mulp_length_le p (cmpp p ys tl) ys
    show (addp p (mulp p (cmpp p ys tl) ys) [c] 1).length ≤ _
    have h3 : max (mulp p (cmpp p ys tl) ys).length [c].length ≤ (mulp p (cmpp p ys tl) ys).length + 1 := Nat.max_le.2 ⟨by omega, by simp⟩
    by_cases e : (mulp p (cmpp p ys tl) ys).length = 0
    · rw [e] at h1 h3; simp at h1; omega
    · have h4 : max (mulp p (cmpp p ys tl) ys).length [c].length = (mulp p (cmpp p ys tl) ys).length := by rw [Nat.max_eq_left]; simp; omega
      rw [h4] at h1
      rw [List.length_cons, Nat.add_mul, Nat.one_mul]
      omega

end Go.Proofs.Ytnkkkgaojhkniaa

/- Walks: the greatest common divisor of arrays with its factors. -/
namespace Go.Proofs.Ytnkkkgaojhkniaa
open Go.RowKit

theorem boxes5 (w : World) (A B C D E : Array Value) (t u v x y : TypeId) : ∃ w', w' = (((((w.alloc (.cells A t)).alloc (.cells B u)).alloc (.cells C v)).alloc (.cells D x)).alloc (.cells E y)) ∧ Below w.heap.size w w' ∧ Blk w' w.heap.size A t ∧
    Blk w' (w.heap.size + 1) B u ∧ Blk w' (w.heap.size + 1 + 1) C v ∧ Blk w' (w.heap.size + 1 + 1 + 1) D x ∧ Blk w' (w.heap.size + 1 + 1 + 1 + 1) E y := by
  obtain ⟨h0, h1, h2, h3, h4⟩ := boxes4 w A B C D t u v x
  exact ⟨_, rfl, h0.alloc (by simp; omega) _, h1.alloc _, h2.alloc _, h3.alloc _, h4.alloc _, Blk.newAt (by simp) _ _⟩
theorem P64.mulp {p : Int} {xs ys : List Int} (hx : P64 p xs) (h : (mulp p xs ys).length ≤ 64) : P64 p (mulp p xs ys) := ⟨hx.pr, mulp_Po (by have := hx.pr.pos; omega) _ _, h⟩
theorem prod_le {p : Int} {xs ys : List Int} (hx : P64 p xs) (hy : Po p ys) (h : xs = [] ∨ ys = [] ∨ xs.length + ys.length ≤ 65) : (mulp p xs ys).length ≤ 64 := by
  rcases mulp_len hx.pr hx.po hy with h1 | ⟨h1, h2, h3⟩
  · rw [h1]; simp
  · rcases h with h | h | h
    · exact absurd h h1
    · exact absurd h h2
    · omega
structure BzP (p : Int) (A B : Nat) (a b u x v y : List Int) : Prop where
  s : BzS p A B a b u x v y
  pr : Pr p
  hA : A ≤ 64
  hB : B ≤ 64
theorem BzP.a {p : Int} {A B : Nat} {a b u x v y : List Int} (h : BzP p A B a b u x v y) : P64 p a := ⟨h.pr, h.s.pa, h.s.la⟩
theorem BzP.b {p : Int} {A B : Nat} {a b u x v y : List Int} (h : BzP p A B a b u x v y) : P64 p b := ⟨h.pr, h.s.pb, h.s.lb⟩
theorem BzP.u {p : Int} {A B : Nat} {a b u x v y : List Int} (h : BzP p A B a b u x v y) : P64 p u := ⟨h.pr, h.s.pu, h.s.iu.hl⟩
theorem BzP.v {p : Int} {A B : Nat} {a b u x v y : List Int} (h : BzP p A B a b u x v y) : P64 p v := ⟨h.pr, h.s.pv, h.s.iv.hl⟩
theorem BzP.x {p : Int} {A B : Nat} {a b u x v y : List Int} (h : BzP p A B a b u x v y) : P64 p x := ⟨h.pr, h.s.px, by rcases h.s.iu.hx with h | h; (· rw [h]; simp); exact h.1⟩
theorem BzP.y {p : Int} {A B : Nat} {a b u x v y : List Int} (h : BzP p A B a b u x v y) : P64 p y := ⟨h.pr, h.s.py, by rcases h.s.iv.hx with h | h; (· rw [h]; simp); exact h.1⟩

end Go.Proofs.Ytnkkkgaojhkniaa

/- Walks: rests of arrays, and T times a rest. -/
namespace Go.Proofs.Ytnkkkgaojhkniaa
open Go.RowKit

/-- T times a rest, ahead of the division. -/
def shF (xs : List Int) (j : Nat) : Nat → Int := fun i => if 1 ≤ i ∧ i < j then cf xs (i - 1) else 0
def upF (p q : Int) (xs ms : List Int) (n j : Nat) : Nat → Int := fun i => if i < j then (shF xs n i - q * cf ms i) % p else shF xs n i
theorem upF_all {p : Int} {xs ms : List Int} (hm : P64 p ms) (n : Nat) (hn : ms.length = n + 1) (h1 : 1 ≤ n) (hl : xs.length < ms.length) (q : Int) (hq : cf xs (n - 1) * invp p (cf ms n) % p = q) (i : Nat) : upF p q xs ms n n i = cf (mulmod p [0, 1] xs ms) i := by
  rw [← up_eq hm.pr hm.po (by omega) hl, mkp_cf, hn, Nat.add_sub_cancel, show n + 1 - 2 = n - 1 by omega, hq]
  unfold upF shF
  by_cases h : i < n
  · rw [if_pos h, if_pos h]
    by_cases e : i = 0
    · rw [if_neg (by omega), if_pos e]
    · rw [if_pos (by omega), if_neg e]
  · rw [if_neg h, if_neg h, if_neg (by omega)]

end Go.Proofs.Ytnkkkgaojhkniaa

/- Walks: products and powers of arrays modulo an array. -/
namespace Go.Proofs.Ytnkkkgaojhkniaa
open Go.RowKit

theorem rst_P64 {p : Int} {xs ms : List Int} (hx : P64 p xs) (hm : P64 p ms) (hne : ms ≠ []) : P64 p (rst p xs ms) := ⟨hx.pr, rst_Po hx.pr hx.po hm.po hne, by have := rst_lt hx.pr hx.po hm.po hne; have := hm.le; omega⟩
theorem mulmod_P64 {p : Int} (xs ys : List Int) {ms : List Int} (hm : P64 p ms) (hne : ms ≠ []) : P64 p (mulmod p xs ys ms) := ⟨hm.pr, mulmod_Po hm.pr hm.po hne, by have := mulmod_lt hm.pr (a := xs) (b := ys) hm.po hne; have := hm.le; omega⟩
theorem P64.one {p : Int} (hp : Pr p) : P64 p [1] := ⟨hp, one_Po hp.pos.1, by simp⟩
end Go.Proofs.Ytnkkkgaojhkniaa

/- Walks: the greatest common divisor of rows with its factors. -/
import Derived.Test.YthkkicanockhgaaA4
import Derived.OwnWalk
import Derived.Test.YthkkicanockhgaaBez
namespace Go.Proofs.Ythkkicanockhgaa
open Go.RowKit

theorem IsRow_one (w : World) (g : Nat) (x : Int) (h : w.cell? ⟨g, 0, none⟩ = some (.int .i64 x)) : IsRow w (.slice (some ⟨g, 0, none⟩) 1 1) [x] :=
  ⟨some ⟨g, 0, none⟩, 1, by simp, by simp, by unfold maxLen; omega, fun _ => ⟨g, 0, rfl, fun i hi => by
    have : i = 0 := by simpa using hi
    subst this; exact h⟩⟩
theorem bzl_stop (p : Int) (n : Nat) (a u x v y : List Int) : bzl p n a [] u x v y = (a, u, v) := by
  cases n with
  | zero => rfl
  | succ n => unfold bzl; rw [if_pos rfl]
theorem bzl_go {p : Int} {n : Nat} {a b u x v y : List Int} (h : b ≠ []) : bzl p (n + 1) a b u x v y = bzl p n b (divp p a b).2 x (addp p u (mulp p (divp p a b).1 x) (-1)) y (addp p v (mulp p (divp p a b).1 y) (-1)) := by
  rw [bzl]; rw [if_neg h]
def lenOf : Value → Nat
  | .slice _ n _ => n
  | _ => 0
theorem IsRow.lenOf {w : World} {v : Value} {xs : List Int} (h : IsRow w v xs) : lenOf v = xs.length := by
  obtain ⟨oa, ca, rfl, _, _, _⟩ := h; rfl
theorem mulp_length_le (p : Int) (a b : List Int) : (mulp p a b).length ≤ a.length + b.length := mkp_length _ _
/-- The state of the loop. -/
structure BzW (w : World) (va vb vu vx vv vy : Value) (a b u x v y : List Int) : Prop where
  a : IsRow w va a
  b : IsRow w vb b
  u : IsRow w vu u
  x : IsRow w vx x
  v : IsRow w vv v
  y : IsRow w vy y

set_option maxHeartbeats 2000000 in
theorem bezout_any (va vb : Value) (xs ys : List Int) (p : Int) (w : World) (hp : Pr p) (ha : IsRow w va xs) (hb : IsRow w vb ys) (hxa : Po p xs) (hxb : Po p ys) (hne : xs ≠ [] ∨ ys ≠ [])
    (la : xs.length ≤ 64) (lb : ys.length ≤ 64) :
    Calls Try.prog 75 #[.int .i64 p, va, vb] w fun e w' => ∃ v1 v2 v3, e = .returned (.tuple #[v1, v2, v3]) ∧ IsRow w' v1 (bez p xs ys).1 ∧ IsRow w' v2 (bez p xs ys).2.1 ∧ IsRow w' v3 (bez p xs ys).2.2 ∧ Below w.heap.size w w' := by
  have hs := BzS.start hp hxa hxb la lb hne
  obtain ⟨R, hR⟩ : ∃ R, bzl p (ys.length + 1) xs ys [1] [] [] [1] = R := ⟨_, rfl⟩
  have hez : bez p xs ys = (scl p R.1 (invp p (cf R.1 (R.1.length - 1))), scl p R.2.1 (invp p (cf R.1 (R.1.length - 1))), scl p R.2.2 (invp p (cf R.1 (R.1.length - 1)))) := by unfold bez; rw [hR]
  rw [hez]
  have hpH := Lib.hid hp
  have hsH := Lib.hid hs
  have hRH := Lib.hid hR
  have haH := Lib.hid ha
  have hbH := Lib.hid hb
  obtain ⟨A, hA⟩ : ∃ A, xs.length = A := ⟨_, rfl⟩
  obtain ⟨B, hB⟩ : ∃ B, ys.length = B := ⟨_, rfl⟩
  rw [hA, hB] at hsH
  rw [hB] at hRH
  have hAB := Lib.hid (show A ≤ 64 ∧ B ≤ 64 from ⟨hA ▸ la, hB ▸ lb⟩)
  have hBl := Lib.hid hB
  clear hp ha hb hxa hxb hne la lb hs hez hR hA hB
  go_enter Try.func75, Try.ntmps75
  go_wp2_with fail
  have hw0 : Below w.heap.size w ((w.alloc (Obj.cells #[Value.int IntKind.i64 1] 2)).alloc (Obj.cells #[Value.int IntKind.i64 1] 2)) := (below_new _ _).alloc (by simp) _
  have hst : BzW ((w.alloc (Obj.cells #[Value.int IntKind.i64 1] 2)).alloc (Obj.cells #[Value.int IntKind.i64 1] 2)) va vb (.slice (some ⟨w.heap.size, 0, none⟩) 1 1) (.slice none 0 0) (.slice none 0 0) (.slice (some ⟨w.heap.size + 1, 0, none⟩) 1 1) xs ys [1] [] [] [1] :=
    ⟨haH.out.below hw0, hbH.out.below hw0, IsRow_one _ _ _ (((Blk.new w #[Value.int IntKind.i64 1] 2).alloc _).cell 0), IsRow_nil _, IsRow_nil _, IsRow_one _ _ _ ((Blk.newAt (by simp) #[Value.int IntKind.i64 1] 2).cell 0)⟩
  generalize ((w.alloc (Obj.cells #[Value.int IntKind.i64 1] 2)).alloc (Obj.cells #[Value.int IntKind.i64 1] 2)) = w0 at *
  have hstH := Lib.hid hst
  clear hst haH hbH
  go_loopw [1, 2, 9, 10, 11, 12] (fun va vb vu vv vx vy wr => ∃ (n : Nat) (a b u x v y : List Int), b.length < n ∧ n ≤ 65 ∧ Hid (BzS p A B a b u x v y) ∧ Hid (bzl p n a b u x v y = R) ∧ Hid (BzW wr va vb vu vx vv vy a b u x v y) ∧ Below w.heap.size w wr) (fun _ vb _ _ _ _ _ => lenOf vb)
  case atStart => exact ⟨B + 1, xs, ys, [1], [], [], [1], by have := hBl.out; omega, by have := hAB.out.2; omega, hsH, hRH, hstH, hw0⟩
  case round =>
    clear hsH hRH hstH hw0
    obtain ⟨n, a, b, u, x, v, y, hn1, hn2, hS, hRr, hW, hb⟩ := hrel
    obtain ⟨k, rfl⟩ : ∃ k, n = k + 1 := ⟨n - 1, by omega⟩
    have hlb := hS.out.lb
    obtain ⟨ob, cb, hvb, _, _, _⟩ := hW.out.b
    subst hvb
    by_cases h0 : b.length = 0
    · have hb0 : ¬ 0 < (b.length : Int) := by omega
      have hbn := List.length_eq_zero_iff.1 h0
      subst hbn
      have hR2 : R = (a, u, v) := hRr.out.symm.trans (bzl_stop _ _ _ _ _ _ _)
      subst hR2
      have hA64 := Lib.hid (hS.out.la)
      have hane := Lib.hid (hS.out.ne.resolve_right (fun h => h rfl))
      clear hRr hn1 h0
      go_wp2_with fail
      refine (lead_any _ a _ hW.out.a).mono ?_
      rintro e w2 ⟨rfl, rfl⟩
      go_wp2_with fail
      refine (inverse_any p _ _ hpH.out (hS.out.pa.md _).1 (hS.out.pa.md _).2).mono ?_
      rintro e w2 ⟨rfl, rfl⟩
      have hi := invp_spec hpH.out (hS.out.pa.lead hane.out) (hS.out.pa.md _).2
      have hp2 := hpH.out.pos
      have hi0 := Lib.hid (show -1000 ≤ invp p (cf a (a.length - 1)) ∧ invp p (cf a (a.length - 1)) ≤ 1000 by omega)
      have hul := Lib.hid hS.out.iu.hl
      have hvl := Lib.hid hS.out.iv.hl
      clear hi hp2
      generalize hiv : invp p (cf a (a.length - 1)) = iv at *
      have hivH := Lib.hid hiv
      clear hiv
      go_wp2_with fail
      refine (scale_any _ a p iv _ hpH.out hW.out.a hS.out.pa.md hi0.out.1 hi0.out.2 (by have := hA64.out; omega)).mono ?_
      rintro e w2 ⟨v1, rfl, hr1, hb1⟩
      have hr1H := Lib.hid hr1
      have hW1 := Lib.hid (hW.out.u.below hb1)
      have hW2 := Lib.hid (hW.out.v.below hb1)
      have hb2 := below_step hb hb1
      clear hr1 hW hb hb1
      go_wp2_with fail
      refine (scale_any _ u p iv _ hpH.out hW1.out hS.out.pu.md hi0.out.1 hi0.out.2 (by have := hul.out; omega)).mono ?_
      rintro e w3 ⟨v2, rfl, hr2, hb1⟩
      have hr2H := Lib.hid hr2
      have hr1I := Lib.hid (hr1H.out.below hb1)
      have hW3 := Lib.hid (hW2.out.below hb1)
      have hb3 := below_step hb2 hb1
      clear hr2 hr1H hW2 hb2 hb1
      go_wp2_with fail
      refine (scale_any _ v p iv _ hpH.out hW3.out hS.out.pv.md hi0.out.1 hi0.out.2 (by have := hvl.out; omega)).mono ?_
      rintro e w4 ⟨v3, rfl, hr3, hb1⟩
      have h1 := Lib.hid (hr1I.out.below hb1)
      have h2 := Lib.hid (hr2H.out.below hb1)
      have h3 := Lib.hid hr3
      have hb4 := below_step hb3 hb1
      clear hr3 hr1I hr2H hW3 hb3 hb1
      go_wp2_with fail
      go_ret3
      refine ⟨_, _, _, rfl, ?_, ?_, ?_, hb4⟩
      · rw [hivH.out]; exact h1.out
      · rw [hivH.out]; exact h2.out
      · rw [hivH.out]; exact h3.out
    · have hb0 : 0 < (b.length : Int) := by omega
      have hbn : b ≠ [] := fun h => h0 (by rw [h]; rfl)
      have hR2 := Lib.hid ((bzl_go hbn).symm.trans hRr.out)
      have hdp := Lib.hid (divp_Po hpH.out hS.out.pa hS.out.pb hbn)
      have hla := Lib.hid hS.out.la
      have hprod := Lib.hid (show (divp p a b).1.length ≤ 64 ∧ x.length ≤ 64 ∧ y.length ≤ 64 ∧ u.length ≤ 64 ∧ v.length ≤ 64 from
        ⟨Nat.le_trans (divp_quot_le p a b) (by have := hla.out; omega), by rcases hS.out.iu.hx with h | h; (· rw [h]; simp); exact h.1, by rcases hS.out.iv.hx with h | h; (· rw [h]; simp); exact h.1, hS.out.iu.hl, hS.out.iv.hl⟩)
      have hSn := Lib.hid (hS.out.step hpH.out hAB.out.1 hAB.out.2 hbn)
      have hbnH := Lib.hid hbn
      have hrl := Lib.hid (hdp.out.2.2)
      clear hRr h0 hbn
      go_wp2_with fail
      refine (divide_any _ _ a b p _ hpH.out hW.out.a hW.out.b hS.out.pa hS.out.pb hbnH.out (by have := hla.out; omega) (by omega)).mono ?_
      rintro e w2 ⟨q, r, rfl, hq, hr, hb1⟩
      have hqH := Lib.hid hq
      have hWa := Lib.hid (And.intro (hW.out.b.below hb1) hr)
      have hWu := Lib.hid (And.intro (hW.out.u.below hb1) (hW.out.x.below hb1))
      have hWv := Lib.hid (And.intro (hW.out.v.below hb1) (hW.out.y.below hb1))
      have hb2 := below_step hb hb1
      clear hq hr hb hb1 hW
      go_wp2_with fail
      refine (times_any _ _ _ x p _ hpH.out hqH.out hWu.out.2 hdp.out.1.md hS.out.px.md (by have := hprod.out; omega) (by have := hprod.out; omega)).mono ?_
      rintro e w3 ⟨t1, rfl, ht1, hb1⟩
      have ht1H := Lib.hid ht1
      replace hqH := Lib.hid (hqH.out.below hb1)
      replace hWa := Lib.hid (And.intro (hWa.out.1.below hb1) (hWa.out.2.below hb1))
      replace hWu := Lib.hid (And.intro (hWu.out.1.below hb1) (hWu.out.2.below hb1))
      replace hWv := Lib.hid (And.intro (hWv.out.1.below hb1) (hWv.out.2.below hb1))
      replace hb2 := below_step hb2 hb1
      clear ht1 hb1
      go_wp2_with fail
      refine (combine_any _ _ u _ p (-1) _ hpH.out hWu.out.1 ht1H.out hS.out.pu.md (mulp_Po (by have := hpH.out.pos; omega) _ _).md (by decide) (by decide) (by have := hprod.out; omega) (by have := mulp_length_le p (divp p a b).1 x; have := hprod.out; omega)).mono ?_
      rintro e w4 ⟨t2, rfl, ht2, hb1⟩
      have ht2H := Lib.hid ht2
      replace hqH := Lib.hid (hqH.out.below hb1)
      replace hWa := Lib.hid (And.intro (hWa.out.1.below hb1) (hWa.out.2.below hb1))
      replace hWu := Lib.hid (hWu.out.2.below hb1)
      replace hWv := Lib.hid (And.intro (hWv.out.1.below hb1) (hWv.out.2.below hb1))
      replace hb2 := below_step hb2 hb1
      clear ht2 hb1 ht1H
      go_wp2_with fail
      refine (times_any _ _ _ y p _ hpH.out hqH.out hWv.out.2 hdp.out.1.md hS.out.py.md (by have := hprod.out; omega) (by have := hprod.out; omega)).mono ?_
      rintro e w5 ⟨t3, rfl, ht3, hb1⟩
      have ht3H := Lib.hid ht3
      replace ht2H := Lib.hid (ht2H.out.below hb1)
      replace hWa := Lib.hid (And.intro (hWa.out.1.below hb1) (hWa.out.2.below hb1))
      replace hWu := Lib.hid (hWu.out.below hb1)
      replace hWv := Lib.hid (And.intro (hWv.out.1.below hb1) (hWv.out.2.below hb1))
      replace hb2 := below_step hb2 hb1
      clear ht3 hb1 hqH
      go_wp2_with fail
      refine (combine_any _ _ v _ p (-1) _ hpH.out hWv.out.1 ht3H.out hS.out.pv.md (mulp_Po (by have := hpH.out.pos; omega) _ _).md (by decide) (by decide) (by have := hprod.out; omega) (by have := mulp_length_le p (divp p a b).1 y; have := hprod.out; omega)).mono ?_
      rintro e w6 ⟨t4, rfl, ht4, hb1⟩
      have hWW := Lib.hid (BzW.mk (hWa.out.1.below hb1) (hWa.out.2.below hb1) (hWu.out.below hb1) (ht2H.out.below hb1) (hWv.out.2.below hb1) ht4)
      replace hb2 := below_step hb2 hb1
      clear ht4 hb1 ht3H ht2H hWa hWu hWv
      go_wp2_with fail
      go_roundw
      case rel => exact ⟨k, _, _, _, _, _, _, by have := hrl.out; omega, by omega, hSn, hR2, hWW, hb2⟩
      case measure => rw [hWW.out.b.lenOf]; exact hrl.out
end Go.Proofs.Ythkkicanockhgaa

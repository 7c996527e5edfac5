/- Several texts in one: C1, C2, C3, C4, C5. -/
import Derived.Test.YtojkngdabejjdaaRws
import Derived.Test.YtojkngdabejjdaaSpc
import Derived.Test.YtojkngdabejjdaaRegs
import Derived.Test.YtojkngdabejjdaaSpd
set_option linter.unusedVariables false
set_option linter.unusedSimpArgs false
/- Walks: sums and differences of polynomials on both sides. -/
namespace Go.Proofs.Ytojkngdabejjdaa
open Go.RowKit

theorem by2 {f g : Nat → Int} (hf : By f) (hg : By g) : ∀ h ∈ [f, g], By h := by
  intro h hh
  simp only [List.mem_cons, List.not_mem_nil, or_false] at hh
  rcases hh with rfl | rfl
  · exact hf
  · exact hg
theorem Good.md {p : Int} {fs : List (Nat → Int)} (h : Good p fs) {f : Nat → Int} (hm : f ∈ fs) (hf : By f) : Po p (mkp 64 f) :=
  ⟨mkp_Tr _ _, Md_mkp (by have := h.1.pos; omega) fun i hi => ⟨(hf i).1, h.2 f hm i hi⟩⟩
theorem told_sum (p t : Int) (f g : Nat → Int) : u8s 64 (toldF (addp p (mkp 64 f) (mkp 64 g) t)) = u8s 64 (sumF p t f g) ∧ toldC (addp p (mkp 64 f) (mkp 64 g) t) = 0 := by
  have hL64 : (addp p (mkp 64 f) (mkp 64 g) t).length ≤ 64 := Nat.le_trans (addp_length p _ _ t) (Nat.max_le.2 ⟨mkp_length 64 f, mkp_length 64 g⟩)
  refine ⟨u8s_ext fun i hi => ?_, if_pos hL64⟩
  unfold toldF
  rw [if_pos hL64, addp_cf, mkp_cf, mkp_cf, if_pos hi, if_pos hi]; rfl
theorem mkp_big (f : Nat → Int) : (mkp 64 f).length ≤ 100000000 := by have := mkp_length 64 f; omega
theorem By_of_Po {p : Int} {xs : List Int} (hp : Pr p) (h : Po p xs) (i : Nat) : 0 ≤ cf xs i ∧ cf xs i ≤ 255 := by
  have := cf_lt7 hp h.md i; omega
end Go.Proofs.Ytojkngdabejjdaa

/- Walks: products and divisions of polynomials on both sides. -/
namespace Go.Proofs.Ytojkngdabejjdaa
open Go.RowKit

theorem Good.p64 {p : Int} {fs : List (Nat → Int)} (h : Good p fs) {f : Nat → Int} (hm : f ∈ fs) (hf : By f) : P64 p (mkp 64 f) := ⟨h.1, h.md hm hf, mkp_length 64 f⟩
theorem u8s_mkp (f : Nat → Int) : u8s 64 f = u8s 64 (cf (mkp 64 f)) := u8s_ext fun i hi => by rw [mkp_cf, if_pos hi]
theorem l01Times_arr (f g : Nat → Int) (p : Int) (w : World) (hx : P64 p (mkp 64 f)) (hy : P64 p (mkp 64 g)) :
    Calls Try.prog 48 #[.int .i64 p, .agg (u8s 64 f), .agg (u8s 64 g)] w fun e w' => e = .returned (.tuple #[.agg (u8s 64 (toldF (mulp p (mkp 64 f) (mkp 64 g)))), .bool (decide ((mulp p (mkp 64 f) (mkp 64 g)).length ≤ 64))]) ∧ Below w.heap.size w w' := by
  rw [u8s_mkp f, u8s_mkp g]; exact l01Times_any _ _ p w hx hy
end Go.Proofs.Ytojkngdabejjdaa

/- Walks: divisions of polynomials on both sides. -/
namespace Go.Proofs.Ytojkngdabejjdaa
open Go.RowKit

theorem mkp_zero_iff (g : Nat → Int) : (mkp 64 g).length = 0 ↔ ∀ i, i < 64 → g i = 0 := by
  constructor
  · intro h i hi
    have := mkp_cf 64 g i
    rw [if_pos hi, List.length_eq_zero_iff.1 h, cf_nil] at this
    exact this.symm
  · intro h
    have := Tr_length_le (mkp_Tr 64 g) (n := 0) fun i _ => by rw [mkp_cf]; split; (· exact h i ‹_›); rfl
    omega
theorem mkp_zero_dec (g : Nat → Int) {z : Bool} (h : decide ((mkp 64 g).length = 0) = z) {inst : Decidable (∀ i, i < 64 → g i = 0)} : @decide (∀ i, i < 64 → g i = 0) inst = z := by
  rw [← h]; exact decide_eq_decide.2 (mkp_zero_iff g).symm
end Go.Proofs.Ytojkngdabejjdaa

/- Walks: greatest common divisors with their factors on both sides. -/
namespace Go.Proofs.Ytojkngdabejjdaa
open Go.RowKit

theorem bzl_P64 {p : Int} : ∀ (n : Nat) {A B : Nat} {a b u x v y : List Int}, BzP p A B a b u x v y → P64 p (bzl p n a b u x v y).1 ∧ P64 p (bzl p n a b u x v y).2.1 ∧ P64 p (bzl p n a b u x v y).2.2
  | 0, _, _, _, _, _, _, _, _, h => ⟨h.a, h.u, h.v⟩
  | n + 1, A, B, a, b, u, x, v, y, h => by
    by_cases hb : b = []
    · subst hb; rw [bzl_stop]; exact ⟨h.a, h.u, h.v⟩
    · rw [bzl_go hb]
      exact bzl_P64 n (A := A) (B := B) ⟨h.s.step h.pr h.hA h.hB hb, h.pr, h.hA, h.hB⟩
theorem bez_P64 {p : Int} {xs ys : List Int} (hx : P64 p xs) (hy : P64 p ys) (hne : xs ≠ [] ∨ ys ≠ []) : P64 p (bez p xs ys).1 ∧ P64 p (bez p xs ys).2.1 ∧ P64 p (bez p xs ys).2.2 := by
  have h := bzl_P64 (ys.length + 1) (BzP.mk (BzS.start hx.pr hx.po hy.po hx.le hy.le hne) hx.pr hx.le hy.le)
  exact ⟨(P64.nil hx.pr).addp h.1 _, (P64.nil hx.pr).addp h.2.1 _, (P64.nil hx.pr).addp h.2.2 _⟩
theorem nil_iff {f : Nat → Int} {z : Bool} (h : decide ((mkp 64 f).length = 0) = z) : mkp 64 f = [] ↔ z = true := by
  rw [← h, decide_eq_true_iff, List.length_eq_zero_iff]

end Go.Proofs.Ytojkngdabejjdaa

/- Walks: greatest common divisors on both sides. -/
namespace Go.Proofs.Ytojkngdabejjdaa
open Go.RowKit
/-- The greatest common divisor, 0 of two zeros. -/
def gcdp (p : Int) (xs ys : List Int) : List Int := if xs = [] ∧ ys = [] then [] else (bez p xs ys).1
set_option maxRecDepth 20000 in
set_option maxHeartbeats 2000000 in
theorem l01Gcd_any (xs ys : List Int) (p : Int) (w : World) (hx : P64 p xs) (hy : P64 p ys) :
    Calls Try.prog 19 #[.int .i64 p, .agg (u8s 64 (cf xs)), .agg (u8s 64 (cf ys))] w fun e w' => e = .returned (.agg (u8s 64 (cf (gcdp p xs ys)))) ∧ Below w.heap.size w w' := by
  have hg1 := Lib.hid (fun w => l01Deg_list p xs w hx)
  have hg2 := Lib.hid (fun w => l01Deg_list p ys w hy)
  have hbzH := Lib.hid (fun (h : ¬ (xs = [] ∧ ys = [])) w => l01Bezout_any xs ys p w hx hy (by
    by_cases h1 : xs = []
    · right; exact fun h2 => h ⟨h1, h2⟩
    · left; exact h1))
  obtain ⟨n1, hn1⟩ : ∃ n, (xs.length : Int) - 1 = n := ⟨_, rfl⟩
  obtain ⟨n2, hn2⟩ : ∃ n, (ys.length : Int) - 1 = n := ⟨_, rfl⟩
  rw [hn1] at hg1
  rw [hn2] at hg2
  have hn1H := Lib.hid hn1
  have hn2H := Lib.hid hn2
  clear hn1 hn2 hx hy
  obtain ⟨hb, hA, hB, hE⟩ := boxes3 w (u8s 64 (cf xs)) (u8s 64 (cf ys)) (u8s 64 fun _ => 0) 25 25 25
  by_cases h0 : n1 < 0 ∧ n2 < 0
  · obtain ⟨h1, h2⟩ := h0
    have hgc : gcdp p xs ys = [] := by
      unfold gcdp; rw [if_pos]
      exact ⟨List.length_eq_zero_iff.1 (by have := hn1H.out; omega), List.length_eq_zero_iff.1 (by have := hn2H.out; omega)⟩
    have hgH := Lib.hid hgc
    clear hgc
    go_enter Try.func19, Try.ntmps19
    go_wp2_with (first | (refine wpl_alloc_arr rfl 25 rfl _ zPoly ?_) | (refine wpl_load_arr rfl 25 _ rfl _ rfl _ _ hA _ _ uPoly sPoly ?_) | (refine wpl_load_arr rfl 25 _ rfl _ rfl _ _ hB _ _ uPoly sPoly ?_))
    refine (hg1.out _).mono ?_
    rintro e w1 ⟨rfl, hn⟩
    replace hA := hA.keep hn
    replace hB := hB.keep hn
    replace hE := hE.keep hn
    replace hb := below_step hb hn
    clear hn
    go_wp2_with (first | (refine wpl_load_arr rfl 25 _ rfl _ rfl _ _ hA _ _ uPoly sPoly ?_) | (refine wpl_load_arr rfl 25 _ rfl _ rfl _ _ hB _ _ uPoly sPoly ?_))
    refine (hg2.out _).mono ?_
    rintro e w2 ⟨rfl, hn⟩
    replace hA := hA.keep hn
    replace hB := hB.keep hn
    replace hE := hE.keep hn
    replace hb := below_step hb hn
    clear hn
    go_wp2_with (first | (refine wpl_build_zero rfl 25 64 5 rfl _ uPoly sByte zPoly ?_) | (refine wpl_store_arr rfl 25 _ _ rfl _ rfl _ rfl _ _ hE sPoly rfl (u8s_oneCell _ _) ?_))
    exact bodyPost_ret (res_c rfl rfl (hE.setRow_same (cs := u8s 64 fun _ => 0)) uPoly sPoly) rfl ⟨by rw [hgH.out, cf_void], below_setRow hb (by omega) _⟩
  · have hgc : gcdp p xs ys = (bez p xs ys).1 := by
      unfold gcdp; rw [if_neg]
      rintro ⟨e1, e2⟩
      exact h0 ⟨by have := hn1H.out; rw [e1] at this; simp at this; omega, by have := hn2H.out; rw [e2] at this; simp at this; omega⟩
    have hbz := hbzH.out (by
      rintro ⟨e1, e2⟩
      exact h0 ⟨by have := hn1H.out; rw [e1] at this; simp at this; omega, by have := hn2H.out; rw [e2] at this; simp at this; omega⟩)
    rw [hgc]
    obtain ⟨D1, hD1⟩ : ∃ M, (bez p xs ys).1 = M := ⟨_, rfl⟩
    obtain ⟨D2, hD2⟩ : ∃ M, (bez p xs ys).2.1 = M := ⟨_, rfl⟩
    obtain ⟨D3, hD3⟩ : ∃ M, (bez p xs ys).2.2 = M := ⟨_, rfl⟩
    rw [hD1]
    rw [hD1, hD2, hD3] at hbz
    have hbH := Lib.hid hbz
    clear hbz hD1 hD2 hD3 hgc hbzH
    by_cases h1 : n1 < 0
    · have h2 : ¬ n2 < 0 := fun h => h0 ⟨h1, h⟩
      clear h0
      go_enter Try.func19, Try.ntmps19
      go_wp2_with (first | (refine wpl_alloc_arr rfl 25 rfl _ zPoly ?_) | (refine wpl_load_arr rfl 25 _ rfl _ rfl _ _ hA _ _ uPoly sPoly ?_) | (refine wpl_load_arr rfl 25 _ rfl _ rfl _ _ hB _ _ uPoly sPoly ?_))
      refine (hg1.out _).mono ?_
      rintro e w1 ⟨rfl, hn⟩
      replace hA := hA.keep hn
      replace hB := hB.keep hn
      replace hE := hE.keep hn
      replace hb := below_step hb hn
      clear hn
      go_wp2_with (first | (refine wpl_load_arr rfl 25 _ rfl _ rfl _ _ hA _ _ uPoly sPoly ?_) | (refine wpl_load_arr rfl 25 _ rfl _ rfl _ _ hB _ _ uPoly sPoly ?_))
      refine (hg2.out _).mono ?_
      rintro e w2 ⟨rfl, hn⟩
      replace hA := hA.keep hn
      replace hB := hB.keep hn
      replace hE := hE.keep hn
      replace hb := below_step hb hn
      clear hn
      go_upto_region 3 with (fail)
      go_wp2_with ((with_reducible refine wpl_guard ?_); first | (refine wpl_load_arr (wanted_none rfl) 25 _ rfl _ rfl _ _ hA _ _ uPoly sPoly ?_) | (refine wpl_load_arr (wanted_none rfl) 25 _ rfl _ rfl _ _ hB _ _ uPoly sPoly ?_))
      refine (hbH.out _).mono ?_
      rintro e w3 ⟨rfl, hn⟩
      replace hA := hA.keep hn
      replace hB := hB.keep hn
      replace hE := hE.keep hn
      replace hb := below_step hb hn
      clear hn
      have hel := hE.lt
      clear hA hB
      go_upto_region 4 with ((with_reducible refine wpl_guard ?_); first | (refine wpl_new3 25 zPoly sPoly _ _ rfl rfl rfl rfl rfl _ _ rfl rfl rfl rfl rfl _ _ rfl rfl rfl rfl rfl rfl _ rfl rfl _ rfl rfl _ rfl ?_; intro w4 hn hN1 hN2 hN3; replace hE := hE.keep hn; replace hb := below_step hb hn; clear hn))
      go_wp2_with ((with_reducible refine wpl_guard ?_); first | (refine wpl_load_arr rfl 25 _ rfl _ rfl _ _ hN1 _ _ uPoly sPoly ?_) | (refine wpl_store_arr rfl 25 _ _ rfl _ rfl _ rfl _ _ hE sPoly (by simp only [u8s_size]) (u8s_oneCell _ _) ?_))
      exact bodyPost_ret (res_c rfl rfl (hE.setRow_same (cs := u8s 64 (cf D1))) uPoly sPoly) rfl ⟨rfl, below_setRow hb (by omega) _⟩
    · clear h0
      go_enter Try.func19, Try.ntmps19
      go_wp2_with (first | (refine wpl_alloc_arr rfl 25 rfl _ zPoly ?_) | (refine wpl_load_arr rfl 25 _ rfl _ rfl _ _ hA _ _ uPoly sPoly ?_) | (refine wpl_load_arr rfl 25 _ rfl _ rfl _ _ hB _ _ uPoly sPoly ?_))
      refine (hg1.out _).mono ?_
      rintro e w1 ⟨rfl, hn⟩
      replace hA := hA.keep hn
      replace hB := hB.keep hn
      replace hE := hE.keep hn
      replace hb := below_step hb hn
      clear hn
      go_upto_region 3 with (fail)
      go_wp2_with ((with_reducible refine wpl_guard ?_); first | (refine wpl_load_arr (wanted_none rfl) 25 _ rfl _ rfl _ _ hA _ _ uPoly sPoly ?_) | (refine wpl_load_arr (wanted_none rfl) 25 _ rfl _ rfl _ _ hB _ _ uPoly sPoly ?_))
      refine (hbH.out _).mono ?_
      rintro e w3 ⟨rfl, hn⟩
      replace hA := hA.keep hn
      replace hB := hB.keep hn
      replace hE := hE.keep hn
      replace hb := below_step hb hn
      clear hn
      have hel := hE.lt
      clear hA hB
      go_upto_region 4 with ((with_reducible refine wpl_guard ?_); first | (refine wpl_new3 25 zPoly sPoly _ _ rfl rfl rfl rfl rfl _ _ rfl rfl rfl rfl rfl _ _ rfl rfl rfl rfl rfl rfl _ rfl rfl _ rfl rfl _ rfl ?_; intro w4 hn hN1 hN2 hN3; replace hE := hE.keep hn; replace hb := below_step hb hn; clear hn))
      go_wp2_with ((with_reducible refine wpl_guard ?_); first | (refine wpl_load_arr rfl 25 _ rfl _ rfl _ _ hN1 _ _ uPoly sPoly ?_) | (refine wpl_store_arr rfl 25 _ _ rfl _ rfl _ rfl _ _ hE sPoly (by simp only [u8s_size]) (u8s_oneCell _ _) ?_))
      exact bodyPost_ret (res_c rfl rfl (hE.setRow_same (cs := u8s 64 (cf D1))) uPoly sPoly) rfl ⟨rfl, below_setRow hb (by omega) _⟩
end Go.Proofs.Ytojkngdabejjdaa

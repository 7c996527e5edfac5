/- Walks: InvariantFactors. -/
import Derived.Test.YtnkkkgaojhkniabPl1
set_option linter.unusedVariables false
set_option linter.unusedSimpArgs false
namespace Go.Proofs.Ytnkkkgaojhkniab
open Go.RowKit
def ifPost (n : Nat) (M : Nat → List Int) (c : Int) (w : World) (e : Ending) (w' : World) : Prop := ∃ v, e = .returned (.tuple #[v, .int .i64 c]) ∧ PlS w' w.heap.size v n M ∧ Below w.heap.size w w'
theorem RwL.c {w : World} {v : Value} {n : Nat} {X : Nat → List Int} (h : RwL w v n X) : ∃ R, RwC w v n R X := by
  obtain ⟨b, c, R, e, h1, h2⟩ := h
  exact ⟨R, ⟨_, c, e, fun _ => ⟨b, rfl, h1⟩⟩, h2⟩
set_option maxRecDepth 20000 in
set_option maxHeartbeats 4000000 in
theorem specInvariantFactors_any (F : Nat → Int) (p n : Int) (b : Bool) (L : Nat) (X : Nat → List Int) (w : World) (hF : By F) (hb : SqOk p n F ↔ b = true) (h0 : b = false → L = 0) (hz : b = true → ∃ N k M, Fac p n F N M ∧ k ≤ N ∧ (∀ i, i < N → ((monic p (M i i)).length ≤ 1 ↔ i < k)) ∧ L = N - k ∧ X = fun i => monic p (M (k + i) (k + i))) :
    Calls Try.prog 19 #[.int .i64 p, .int .i64 n, .agg (u8s 36 F)] w (ifPost L X (onC b) w) := by
  have hFH := Lib.hid hF
  have hbH := Lib.hid hb
  have hzH := Lib.hid hz
  have h0H := Lib.hid h0
  clear hF hb hz h0
  obtain ⟨hb, hA⟩ := boxes1 w (u8s 36 F) 30
  go_enter Try.func19, Try.ntmps19
  go_wp2_with ((with_reducible refine wpl_guard ?_); first | (refine wpl_load_arr rfl 30 _ rfl _ rfl _ _ hA _ _ uSquare sSquare ?_))
  refine (l05Is_any p n F b _ hFH.out hbH.out).mono ?_
  rintro e u1 ⟨rfl, hn⟩
  replace hA := hA.keep hn
  replace hb := below_step hb hn
  clear hn
  cases b
  · obtain rfl := h0H.out (by first | rfl | trivial)
    go_wp2_with fail
    go_ret2
    exact ⟨_, rfl, World.ownsRow_nil _ _ _ _, hb⟩
  obtain ⟨N, k, M, hf', hkn, hk', hL', hX'⟩ := hzH.out (by first | rfl | trivial)
  have hf := Lib.hid hf'
  have hk := Lib.hid hk'
  have hLH := Lib.hid hL'
  have hXH := Lib.hid hX'
  clear hf' hk' hL' hX' hzH hbH hFH h0H
  go_wp2_with ((with_reducible refine wpl_guard ?_); first | (refine wpl_load_arr rfl 30 _ rfl _ rfl _ _ hA _ _ uSquare sSquare ?_))
  refine (l05Invariants_any F p n N k M _ hf.out hkn hk.out).mono ?_
  rintro e u2 ⟨v, rfl, hv, hn⟩
  have hsz := hb.size
  rw [← hLH.out, ← hXH.out] at hv
  have hv2 := Lib.hid (show PlS u2 w.heap.size v L X from hv.mono hsz)
  clear hv
  replace hA := hA.keep hn
  replace hb := below_step hb hn
  clear hn
  go_wp2_with fail
  go_ret2
  exact ⟨_, rfl, hv2.out, hb⟩
set_option maxRecDepth 20000 in
set_option maxHeartbeats 4000000 in
theorem implInvariantFactors_any (F : Nat → Int) (p n : Int) (b : Bool) (L : Nat) (X : Nat → List Int) (w : World) (hF : By F) (hb : SqOk p n F ↔ b = true) (h0 : b = false → L = 0) (hz : b = true → ∃ N k M, Fac p n F N M ∧ k ≤ N ∧ (∀ i, i < N → ((monic p (M i i)).length ≤ 1 ↔ i < k)) ∧ L = N - k ∧ X = fun i => monic p (M (k + i) (k + i))) :
    Calls Try.prog 20 #[.int .i64 p, .int .i64 n, .agg (u8s 36 F)] w (ifPost L X (onC b) w) := by
  have hFH := Lib.hid hF
  have hbH := Lib.hid hb
  have hzH := Lib.hid hz
  have h0H := Lib.hid h0
  clear hF hb hz h0
  obtain ⟨hb, hA⟩ := boxes1 w (u8s 36 F) 30
  go_enter Try.func20, Try.ntmps20
  go_wp2_with ((with_reducible refine wpl_guard ?_); first | (refine wpl_load_arr rfl 30 _ rfl _ rfl _ _ hA _ _ uSquare sSquare ?_))
  refine (implIsSquare_any p n F b _ hFH.out hbH.out).mono ?_
  rintro e u1 ⟨rfl, hn⟩
  replace hA := hA.keep hn
  replace hb := below_step hb hn
  clear hn
  cases b
  · obtain rfl := h0H.out (by first | rfl | trivial)
    go_wp2_with fail
    go_ret2
    exact ⟨_, rfl, World.ownsRow_nil _ _ _ _, hb⟩
  obtain ⟨N, k, M, hf', hkn, hk', hL', hX'⟩ := hzH.out (by first | rfl | trivial)
  have hf := Lib.hid hf'
  have hk := Lib.hid hk'
  have hLH := Lib.hid hL'
  have hXH := Lib.hid hX'
  clear hf' hk' hL' hX' hzH hbH hFH h0H
  go_wp2_with ((with_reducible refine wpl_guard ?_); first | (refine wpl_load_arr rfl 30 _ rfl _ rfl _ _ hA _ _ uSquare sSquare ?_))
  refine (hf.out.mat _).mono ?_
  rintro e u2 ⟨v2, rfl, hR, hn⟩
  replace hA := hA.keep hn
  replace hb := below_step hb hn
  clear hn
  go_wp2_with fail
  refine (hf.out.facs hkn hk.out _ _ hR).mono ?_
  rintro e u3 ⟨v, rfl, hv, hn⟩
  replace hA := hA.keep hn
  replace hb := below_step hb hn
  clear hn
  rw [← hLH.out, ← hXH.out] at hv
  obtain ⟨R, hc⟩ := hv.c
  have hN6 := hf.out.le
  have hp2 := hf.out.pr.pos
  have hpl := Lib.hid (polys_any v L R X u3 (by have := hLH.out; omega) hc (fun i hi => by
    rw [hXH.out]
    have h1 := hf.out.po (k + i)
    have h2 := hf.out.mlen (i := k + i) (by have := hLH.out; omega)
    exact ⟨fun q => by have h3 := h1.md q; exact ⟨h3.1, by have := h3.2; show cf (monic p (M (k + i) (k + i))) q ≤ 255; omega⟩, Nat.le_trans h2 (by decide)⟩))
  clear hR hv hc
  go_wp2_with fail
  refine hpl.out.mono ?_
  rintro e u4 ⟨v4, rfl, hv4, hn⟩
  have hsz := hb.size
  have hv5 := Lib.hid (show PlS u4 w.heap.size v4 L X from owns_mono' hv4 hsz)
  clear hv4 hpl
  replace hA := hA.keep hn
  replace hb := below_step hb hn
  clear hn
  go_wp2_with fail
  go_ret2
  exact ⟨_, rfl, hv5.out, hb⟩
theorem InvariantFactors_pair (p n : Int) (F : Nat → Int) (_ : (Lit.int .i64 p).wf = true) (_ : (Lit.int .i64 n).wf = true) (hF : By F) : ∃ (L : Nat) (X : Nat → List Int) (c : Int), L ≤ 1000 ∧
    (∀ w, Calls Try.prog 19 #[.int .i64 p, .int .i64 n, .agg (u8s 36 F)] w (ifPost L X c w)) ∧ (∀ w, Calls Try.prog 20 #[.int .i64 p, .int .i64 n, .agg (u8s 36 F)] w (ifPost L X c w)) := by
  obtain ⟨b, hb⟩ := dec_true (SqOk p n F)
  obtain ⟨L, X, hL, h0, hz⟩ : ∃ (L : Nat) (X : Nat → List Int), L ≤ 1000 ∧ (b = false → L = 0) ∧ (b = true → ∃ N k M, Fac p n F N M ∧ k ≤ N ∧ (∀ i, i < N → ((monic p (M i i)).length ≤ 1 ↔ i < k)) ∧ L = N - k ∧ X = fun i => monic p (M (k + i) (k + i))) := by
    cases b
    · exact ⟨0, fun _ => [], by omega, fun _ => rfl, fun h => by cases h⟩
    · obtain ⟨N, M, h⟩ := fac_ok hF (hb.2 rfl)
      obtain ⟨k, hk, hc⟩ := h.cut
      exact ⟨N - k, _, by have := h.le; omega, fun h => (by cases h), fun _ => ⟨N, k, M, h, hk, hc, rfl, rfl⟩⟩
  exact ⟨L, X, _, hL, fun w => specInvariantFactors_any F p n b L X w hF hb h0 hz, fun w => implInvariantFactors_any F p n b L X w hF hb h0 hz⟩
end Go.Proofs.Ytnkkkgaojhkniab

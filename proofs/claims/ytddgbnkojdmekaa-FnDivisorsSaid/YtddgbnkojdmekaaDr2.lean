/- Walks: draws of numbers out of lists, of primes and polynomials. -/
import Derived.Test.YtddgbnkojdmekaaDr1
import Derived.Test.YtddgbnkojdmekaaCmn
set_option linter.unusedVariables false
set_option linter.unusedSimpArgs false
namespace Go.Proofs.Ytddgbnkojdmekaa
open Go.RowKit
theorem Src.step {B g : Nat} {w w' : World} {row : Option Nat} (h : Src B w g) (hg : w.grownBy w' row) (hr : ∀ q, row = some q → B ≤ q ∧ q ≠ g) : Src B w' g := by
  obtain ⟨oa, m, c, t, hh, hB, hBg, hm, ht0, ht1, hh0, hh1, hc⟩ := h
  refine ⟨oa, m, c, t, hh, ?_, hBg, hm, ht0, ht1, hh0, hh1, fun h0 => ?_⟩
  · unfold Blk; rw [hg.block _ hB.lt fun e => (hr _ e.symm).2 rfl]; exact hB
  · obtain ⟨b, o, e1, e2, e3⟩ := hc h0
    refine ⟨b, o, e1, e2, fun i hi => ?_⟩
    obtain ⟨z, h1, h2⟩ := e3 i hi
    exact ⟨z, hg.cell h1 fun e => by have := (hr _ e.symm).1; dsimp only at this; omega, h2⟩
theorem Src.below {B g : Nat} {w w' : World} (h : Src B w g) (hb : Below w.heap.size w w') : Src B w' g := h.step (row := none) ⟨hb.os, hb.tape, hb.output, hb.size, fun k hk _ => hb.block k hk⟩ fun q e => by cases e
theorem Src.lt {B g : Nat} {w : World} (h : Src B w g) : g < w.heap.size := by
  obtain ⟨_, _, _, _, _, hB, _⟩ := h
  exact hB.lt
theorem Src.ge {B g : Nat} {w : World} (h : Src B w g) : B ≤ g := by
  obtain ⟨_, _, _, _, _, _, hB, _⟩ := h
  exact hB
theorem grown_past {w w1 w2 : World} {row row2 : Option Nat} (h : w.grownBy w1 row) (h2 : w1.grownBy w2 row2) (hr : ∀ g, row2 = some g → w.heap.size ≤ g) : w.grownBy w2 row :=
  ⟨h2.os.trans h.os, h2.tape.trans h.tape, h2.output.trans h.output, Nat.le_trans h.size h2.size, fun k hk hne => (h2.block k (Nat.lt_of_lt_of_le hk h.size) fun e => by have := hr k e.symm; omega).trans (h.block k hk hne)⟩
theorem below_grown {w w' : World} (h : Below w.heap.size w w') (row : Option Nat) : w.grownBy w' row := ⟨h.os, h.tape, h.output, h.size, fun k hk _ => h.block k hk⟩
theorem grown_row (w : World) (g : Nat) (cs : Array Value) : w.grownBy (w.setRow g cs) (some g) := ⟨rfl, rfl, rfl, by simp, fun k _ hk => setRow_other w g k cs (fun e => hk (by rw [e]))⟩
theorem Blk.grownR {w w' : World} {k : Nat} {cs : Array Value} {t : TypeId} {row : Option Nat} (h : Blk w k cs t) (hg : w.grownBy w' row) (hne : some k ≠ row) : Blk w' k cs t := by
  unfold Blk; rw [hg.block k h.lt hne]; exact h
def ints (vs : List Int) : Array Value := (vs.map fun x => Value.int .i64 x).toArray
set_option maxRecDepth 20000 in
set_option maxHeartbeats 1000000 in
theorem l01Pick_any (B g gl : Nat) (vs : List Int) (w : World) (h : Src B w g) (hL : Blk w gl (ints vs) 2) (hne : 0 < vs.length) (hgl : gl ≠ g) (hm : vs.length ≤ 1000) :
    Calls Try.prog 51 #[.pointer (some ⟨g, 0, none⟩), .slice (some ⟨gl, 0, none⟩) vs.length vs.length] w fun e w' => ∃ x, e = .returned (.int .i64 x) ∧ x ∈ vs ∧ Src B w' g ∧ w.grownBy w' (some g) := by
  have hN := Lib.hid (l01Next_any B g vs.length w h)
  go_enter Try.func51, Try.ntmps51
  go_wp2_with fail
  refine hN.out.mono ?_
  rintro e w1 ⟨x, rfl, hx0, hx1, hS1, hg1⟩
  obtain ⟨X, rfl⟩ := Int.eq_ofNat_of_zero_le hx0
  have hX : X < vs.length := by omega
  have hc : w1.cell? ⟨gl, X, none⟩ = some (.int .i64 vs[X]) := hg1.cell (by rw [hL.cell, ints]; simp [hX]) (by intro e; injection e with e; exact hgl e)
  have hmem : vs[X] ∈ vs := List.getElem_mem hX
  have hS1H := Lib.hid hS1
  have hg1H := Lib.hid hg1
  generalize vs[X] = y at *
  clear hN h hL hS1 hg1
  go_wp2_with fail
  go_ret
  exact ⟨_, rfl, hmem, hS1H.out, hg1H.out⟩
end Go.Proofs.Ytddgbnkojdmekaa

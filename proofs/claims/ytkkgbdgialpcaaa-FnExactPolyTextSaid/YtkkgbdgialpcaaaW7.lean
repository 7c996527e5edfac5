/- Walks: the codes of lists that a call writes out; DegreeOf on both sides. -/
import Derived.Test.YtkkgbdgialpcaaaW6
namespace Go.Proofs.Ytkkgbdgialpcaaa
open Go.RowKit

/-- All coefficients of all polynomials are numbers modulo p, and p is a prime. -/
def Good (p : Int) (fs : List (Nat → Int)) : Prop := Pr p ∧ ∀ f ∈ fs, ∀ i, i < 64 → f i < p
/-- Bytes. -/
def By (f : Nat → Int) : Prop := ∀ i, 0 ≤ f i ∧ f i ≤ 255

theorem polysF_in (fs : List (Nat → Int)) (hf : ∀ f ∈ fs, By f) (j : Nat) : 0 ≤ polysF fs j ∧ polysF fs j ≤ 255 := by
  unfold polysF
  by_cases h : j / 64 < fs.length
  · rw [List.getD_eq_getElem?_getD, List.getElem?_eq_getElem h]
    exact hf _ (List.getElem_mem h) _
  · rw [List.getD_eq_getElem?_getD, List.getElem?_eq_none (by omega)]
    show (0 : Int) ≤ 0 ∧ (0 : Int) ≤ 255
    omega
theorem AllP_polysF (p : Int) (fs : List (Nat → Int)) : AllP fs.length (polysF fs) p ↔ ∀ f ∈ fs, ∀ i, i < 64 → f i < p := by
  rw [AllP_iff]
  have e : ∀ i (hi : i < fs.length) q, q < 64 → polysF fs (i * 64 + q) = fs[i] q := by
    intro i hi q hq
    unfold polysF
    rw [show (i * 64 + q) / 64 = i by omega, show (i * 64 + q) % 64 = q by omega, List.getD_eq_getElem?_getD, List.getElem?_eq_getElem hi]; rfl
  constructor
  · intro h f hf q hq
    obtain ⟨i, hi, rfl⟩ := List.mem_iff_getElem.1 hf
    rw [← e i hi q hq]; exact h i hi q hq
  · intro h i hi q hq
    rw [e i hi q hq]; exact h _ (List.getElem_mem hi) q hq

theorem polysCode_lit (fs : List (Nat → Int)) (n N : Nat) (hn : fs.length = n) (hN : N = n * 64) (hn2 : n ≤ 1000) (p : Int) (g : Nat) (T : TypeId) (w : World) (hB : Blk w g (u8s N (polysF fs)) T)
    (hf : ∀ f ∈ fs, By f) (b : Bool) (hb : Good p fs ↔ b = true) :
    Calls Try.prog 58 #[.int .i64 p, .slice (some ⟨g, 0, none⟩) n n] w fun e w' => e = .returned (.int .i64 (codeOf b)) ∧ Below w.heap.size w w' :=
  polysCode_any (polysF fs) n n _ p w (fun j _ => polysF_in fs hf j) (by omega) (by subst hN; exact CellsAt.blk hB) b (by rw [← hb]; unfold Good; rw [← AllP_polysF, hn])
theorem l01Code_lit (fs : List (Nat → Int)) (n N : Nat) (hn : fs.length = n) (hN : N = n * 64) (hn2 : n ≤ 1000) (p : Int) (g : Nat) (T : TypeId) (w : World) (hB : Blk w g (u8s N (polysF fs)) T)
    (hf : ∀ f ∈ fs, By f) (b : Bool) (hb : Good p fs ↔ b = true) :
    Calls Try.prog 57 #[.int .i64 p, .slice (some ⟨g, 0, none⟩) n n] w fun e w' => e = .returned (.int .i64 (codeOf b)) ∧ Below w.heap.size w w' :=
  l01Code_any (polysF fs) n n _ p w (fun j _ => polysF_in fs hf j) (by omega) (by subst hN; exact CellsAt.blk hB) b (by rw [← hb]; unfold Good; rw [← AllP_polysF, hn])

theorem By.on {f : Nat → Int} (h : By f) : ∀ i, i < 64 → 0 ≤ f i ∧ f i ≤ 255 := fun i _ => h i
theorem by1 {f : Nat → Int} (h : By f) : ∀ g ∈ [f], By g := by intro g hg; rw [List.mem_singleton] at hg; subst hg; exact h

def degRes (b : Bool) (f : Nat → Int) : Int := if b then ((mkp 64 f).length : Int) - 1 else 0
set_option maxHeartbeats 400000 in
theorem specDegreeOf_any (f : Nat → Int) (p : Int) (w : World) (hf : By f) (b : Bool) (hb : Good p [f] ↔ b = true) :
    Calls Try.prog 26 #[.int .i64 p, .agg (u8s 64 f)] w fun e w' => e = .returned (.tuple #[.int .i64 (degRes b f), .int .i64 (codeOf b)]) ∧ Below w.heap.size w w' := by
  have hfH := Lib.hid hf; clear hf
  have hbH := Lib.hid hb; clear hb
  have hB := Blk.new w (u8s 64 f) 25
  have hb0 := below_new w (.cells (u8s 64 f) 25)
  go_enter Try.func26, Try.ntmps26
  go_wp2_with (first | (refine wpl_load_arr rfl 25 _ rfl _ rfl _ _ hB _ _ uPoly sPoly ?_) | (refine wpl_buildSlice_polys rfl 93 25 1 _ rfl Try.underlying93 sPoly zPoly [f] rfl (by decide) (by decide) rfl ?_))
  refine (l01Code_lit [f] 1 64 rfl rfl (by omega) p _ _ _ (Blk.newAt (size_alloc _ _).symm _ _) (by1 hfH.out) b hbH.out).mono ?_
  rintro e w1 ⟨rfl, hb1⟩
  have hb2 := below_step hb0 (below_step (below_new _ _) hb1)
  have hB1 := (hB.alloc _).keep hb1
  clear hB hb0 hb1
  cases b
  · go_wp2_with fail
    go_ret2
    exact ⟨rfl, hb2⟩
  · go_wp2_with (first | (refine wpl_load_arr rfl 25 _ rfl _ rfl _ _ hB1 _ _ uPoly sPoly ?_))
    refine (l01Deg_any f _ hfH.out.on).mono ?_
    rintro e w2 ⟨rfl, hb3⟩
    go_wp2_with fail
    go_ret2
    exact ⟨rfl, below_step hb2 hb3⟩
set_option maxHeartbeats 400000 in
theorem implDegreeOf_any (f : Nat → Int) (p : Int) (w : World) (hf : By f) (b : Bool) (hb : Good p [f] ↔ b = true) :
    Calls Try.prog 27 #[.int .i64 p, .agg (u8s 64 f)] w fun e w' => e = .returned (.tuple #[.int .i64 (degRes b f), .int .i64 (codeOf b)]) ∧ Below w.heap.size w w' := by
  have hfH := Lib.hid hf; clear hf
  have hbH := Lib.hid hb; clear hb
  have hB := Blk.new w (u8s 64 f) 25
  have hb0 := below_new w (.cells (u8s 64 f) 25)
  go_enter Try.func27, Try.ntmps27
  go_wp2_with (first | (refine wpl_load_arr rfl 25 _ rfl _ rfl _ _ hB _ _ uPoly sPoly ?_) | (refine wpl_buildSlice_polys rfl 93 25 1 _ rfl Try.underlying93 sPoly zPoly [f] rfl (by decide) (by decide) rfl ?_))
  refine (polysCode_lit [f] 1 64 rfl rfl (by omega) p _ _ _ (Blk.newAt (size_alloc _ _).symm _ _) (by1 hfH.out) b hbH.out).mono ?_
  rintro e w1 ⟨rfl, hb1⟩
  have hb2 := below_step hb0 (below_step (below_new _ _) hb1)
  have hB1 := (hB.alloc _).keep hb1
  clear hB hb0 hb1
  cases b
  · go_wp2_with fail
    go_ret2
    exact ⟨rfl, hb2⟩
  · go_wp2_with (first | (refine wpl_load_arr rfl 25 _ rfl _ rfl _ _ hB1 _ _ uPoly sPoly ?_))
    refine (rowOf_any f _ hfH.out.on).mono ?_
    rintro e w2 ⟨v, rfl, hrow, hb3⟩
    go_wp2_with fail
    refine (degree_any _ _ _ hrow).mono ?_
    rintro e w3 ⟨rfl, rfl⟩
    go_wp2_with fail
    go_ret2
    exact ⟨rfl, below_step hb2 hb3⟩
theorem DegreeOf_pair (p : Int) (f : Nat → Int) (_ : (Lit.int .i64 p).wf = true) (hf : By f) : ∃ r0 r1 : Int,
    (∀ w, Calls Try.prog 26 #[.int .i64 p, .agg (u8s 64 f)] w fun e w' => e = .returned (.tuple #[.int .i64 r0, .int .i64 r1]) ∧ Below w.heap.size w w') ∧
    (∀ w, Calls Try.prog 27 #[.int .i64 p, .agg (u8s 64 f)] w fun e w' => e = .returned (.tuple #[.int .i64 r0, .int .i64 r1]) ∧ Below w.heap.size w w') := by
  obtain ⟨b, hb⟩ : ∃ b : Bool, Good p [f] ↔ b = true := by
    by_cases h : Good p [f]
    · exact ⟨true, by simp [h]⟩
    · exact ⟨false, by simp [h]⟩
  exact ⟨_, _, fun w => specDegreeOf_any f p w hf b hb, fun w => implDegreeOf_any f p w hf b hb⟩
end Go.Proofs.Ytkkgbdgialpcaaa

/- Walks: the first place of a vector; small operations. -/
import Derived.Test.YtnkkkgaojhkniabBsL
import Derived.Test.YtnkkkgaojhkniabI4
import Derived.Test.YtnkkkgaojhkniabM9
set_option linter.unusedVariables false
set_option linter.unusedSimpArgs false
namespace Go.Proofs.Ytnkkkgaojhkniab
open Go.RowKit
/-- The place of the first number other than 0. -/
def fstP (xs : List Int) : Nat := xs.findIdx fun c => c != 0
theorem fstP_spec {p : Int} {xs : List Int} (h : Po p xs) (hn : xs ≠ []) : fstP xs < xs.length ∧ cf xs (fstP xs) ≠ 0 ∧ ∀ j, j < fstP xs → cf xs j = 0 := by
  have hl := List.length_pos_iff.2 hn
  have h1 := h.lead hn
  have h2 : fstP xs < xs.length := by
    refine List.findIdx_lt_length_of_exists ⟨cf xs (xs.length - 1), cf_mem _ _ (by omega), ?_⟩
    simp; omega
  refine ⟨h2, ?_, fun j hj => ?_⟩
  · have h3 := List.findIdx_getElem (p := fun c : Int => c != 0) (xs := xs) (w := h2)
    rw [cf_lt _ _ h2]
    unfold fstP
    simpa using h3
  · have h3 := List.not_of_lt_findIdx (p := fun c : Int => c != 0) (xs := xs) hj
    rw [cf_lt _ _ (by omega)]
    simpa using h3
section
variable {P : Program} {Q : Exit → Act → World → Prop} {o : Oper} {a : Act} {w : World}
theorem wp_negI (t : TypeId) (x : Operand) (hop : o.op = .unOp .neg t x) (A : Int) (hx : a.eval x = .int .i64 A) (h0 : 0 ≤ A) (h1 : A ≤ 1000) :
    o.wp P a w (fun a' w' => a' = a.put o.dst (.int .i64 (-A)) ∧ Below w.heap.size w w') Q := by
  have hw : IntKind.i64.wrap (-A) = -A := by rw [IntKind.wrap_i64]; omega
  have hw0 : IntKind.i64.wrap (0 - A) = -A := by rw [IntKind.wrap_i64]; omega
  unfold Oper.wp execOp
  simp [hop, hx, Op.unary, Op.intArith, Sem.run_bind, Oper.upon, hw, hw0]
  exact Below.refl _ _
theorem wp_mulI (t t' : TypeId) (x y : Operand) (hop : o.op = .binOp .mul t x y t') (A B C : Int) (hx : a.eval x = .int .i64 A) (hy : a.eval y = .int .i64 B) (hC : A * B = C) (h0 : -100000 ≤ C) (h1 : C ≤ 100000) :
    o.wp P a w (fun a' w' => a' = a.put o.dst (.int .i64 C) ∧ Below w.heap.size w w') Q := by
  have hw : IntKind.i64.wrap (A * B) = C := by rw [hC, IntKind.wrap_i64]; omega
  unfold Oper.wp execOp
  simp only [hop, hx, hy]
  simp only [eqGuard, binOp, Op.intArith, Sem.run_bind, Sem.run_pure, Result.andThen_ok, Bool.not_false, if_true, hw, Oper.upon]
  simp only [ne_eq, not_true, if_false, Sem.run_pure, Result.andThen_ok]
  exact ⟨trivial, Below.refl _ _⟩
end
section
variable {P : Program} {ops : Array Oper} {rest : List Oper} {o : Oper} {a : Act} {w : World} {Q : Exit → Act → World → Prop}
theorem wpl_store_u8 (hw : Region.wanted o (yielded ops a.tmps) = true) (t : TypeId) (x y : Operand) (hop : o.op = .store t x y) (g k : Nat) (hx : a.eval x = .pointer (some ⟨g, k, none⟩)) (v : Int) (hy : a.eval y = .int .u8 v) (n : Nat) (f : Nat → Int) (T : TypeId) (hb : Blk w g (u8s n f) T)
    (hk : k < n) (hs : (P.info? t).map (·.size) = some 1) (h : wpList P ops Q rest (a.put o.dst undef) (w.setRow g (u8s n (fun j => if j = k then v else f j)))) : wpList P ops Q (o :: rest) a w :=
  wpl_wanted hw fun _ hK => wp_store_arrN t x y hop g k hx (.int .u8 v) hy n (fun j => .int .u8 (f j)) T hb hk hs rfl (by
    rw [show arr n (fun j => if j = k then Value.int .u8 v else .int .u8 (f j)) = u8s n (fun j => if j = k then v else f j) from arr_ext fun j _ => by by_cases e : j = k <;> simp [e]]
    exact hK _ _ h)
end
set_option maxRecDepth 20000 in
set_option maxHeartbeats 1000000 in
theorem l05First_any (xs : List Int) (p : Int) (w : World) (hx : R6 p xs) (hn : xs ≠ []) :
    Calls Try.prog 75 #[.agg (u8s 6 (cf xs))] w fun e w' => e = .returned (.int .i64 (fstP xs)) ∧ Below w.heap.size w w' := by
  obtain ⟨h1, h2, h3⟩ := fstP_spec hx.po hn
  have h6 : fstP xs < 6 := by have := hx.le; omega
  have h3H := Lib.hid h3
  obtain ⟨hb0, hB⟩ := boxes1 w (u8s 6 (cf xs)) 28
  obtain ⟨q, hq⟩ : ∃ q, fstP xs = q := ⟨_, rfl⟩
  rw [hq] at h2 h3H h6 ⊢
  clear h1 h3 hq hx hn
  have h2H := Lib.hid h2
  clear h2
  go_enter Try.func75, Try.ntmps75
  go_wp2_with fail
  go_loopw [3] (fun iv wr => ∃ k : Nat, k ≤ q ∧ iv = .int .i64 (k : Int) ∧ Blk wr w.heap.size (u8s 6 (cf xs)) 28 ∧ Below w.heap.size w wr) (fun iv _ => q - (intOf iv).toNat)
  case atStart => exact ⟨0, by omega, rfl, hB, hb0⟩
  case round =>
    clear hB hb0
    obtain ⟨k, hk, rfl, hB, hb⟩ := hrel
    have hk6 : (k : Int) < 6 := by omega
    have c0 : wr.cell? ⟨w.heap.size, k, none⟩ = some (.int .u8 (cf xs k)) := by rw [hB.cell, u8s_get _ (by omega)]
    by_cases e : k = q
    · subst e
      have hz : (cf xs k == 0) = false := beq_eq_false_iff_ne.2 h2H.out
      go_wp2_with fail
      go_ret
      exact ⟨rfl, hb⟩
    · have hz : (cf xs k == 0) = true := by rw [h3H.out k (by omega)]; rfl
      go_wp2_with fail
      go_roundw
      case rel => exact ⟨k + 1, by omega, by go_num, hB, hb⟩
      case measure => simp [intOf] <;> omega
end Go.Proofs.Ytnkkkgaojhkniab

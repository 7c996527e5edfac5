/- Walks: what the program's rounds keep beside the matrix. -/
import Derived.Test.YtnkkkgaojhkniabMt7
import Derived.Test.YtnkkkgaojhkniabSmd
import Derived.Test.YtnkkkgaojhkniabInv9
set_option linter.unusedVariables false
set_option linter.unusedSimpArgs false
namespace Go.Proofs.Ytnkkkgaojhkniab
open Go.RowKit
section
variable {P : Program} {Q : Exit → Act → World → Prop} {o : Oper} {a : Act} {w : World}
theorem wpv_row_slice (t e : TypeId) (x : Operand) (hop : o.op = .buildSlice t 1 #[(0, x)]) (ht : P.underlying t = some (.slice e)) (hs : (P.info? e).map (·.size) = some 1) (hz : (P.info? e).bind (·.zero) = some (.slice none 0 0)) (oa : Option Addr) (m c : Nat) (hx : a.eval x = .slice oa m c) :
    WpV P o a w (fun u w' => ∃ g, u = .slice (some ⟨g, 0, none⟩) 1 1 ∧ w'.cell? ⟨g, 0, none⟩ = some (.slice oa m c)) Q := by
  obtain ⟨ie, hie, hse⟩ := Option.map_eq_some_iff.1 hs
  have hz2 : ie.zero = some (.slice none 0 0) := by rw [hie] at hz; exact hz
  unfold WpV Oper.wp execOp
  simp [hop, hx, Instr.buildSlice, Sem.run_bind, run_underlying ht w, sizeOf, typeInfo, hie, hse, zeroValue, hz2, Instr.fill, newRow, newObj, Oper.upon, Value.cells]
  exact ⟨_, rfl, ⟨_, rfl, (Blk.new w ((Array.map (fun x => [Value.slice none 0 0][x % 1]?.getD default) (Array.range 1)).setIfInBounds 0 (Value.slice oa m c)) e).cell 0 |>.trans (by simp)⟩, below_new _ _⟩
theorem wp_append_line {K : Act → World → Prop} (s x : Operand) (t : TypeId) (hop : o.op = .call { callee := .builtin .append, args := #[s, x], argTypes := #[t, t] })
    (base e : Nat) (ht : P.underlying t = some (.slice e)) (hinfo : (P.info? e).map (fun i => (i.zero, i.size, i.bytes)) = some (some (.slice none 0 0), 1, 24))
    (v : Value) (q : Nat) (R : Nat → Value) (hs : a.eval s = v) (hL : LineB w base e v q R) (ad : Addr) (hx : a.eval x = .slice (some ad) 1 1) (y : Value) (hy : ∃ a m c, y = .slice a m c) (hc : w.cell? ad = some y) (hq : q ≤ 100000) (hbase : base ≤ w.heap.size)
    (h : ∀ b' c' w' R', LineB w' base e (.slice (some ⟨b', 0, none⟩) (q + 1) c') (q + 1) R' → w.grownBy w' v.ownBlock → (∀ j, j < q → R' j = R j) → R' q = y → K (a.put o.dst (.slice (some ⟨b', 0, none⟩) (q + 1) c')) w') : o.wp P a w K Q := by
  obtain ⟨v', w', R', hr, h1, h2, h3, h4, h5⟩ := run_append_line (P := P) w base t o.type e ht hinfo v q R hL ad y hy hc hq hbase
  have h1' := h1
  rcases h1 with ⟨_, h⟩ | ⟨b', c', rfl, _⟩
  · omega
  · unfold Oper.wp execOp
    simp only [hop, resolve, invoke, builtin, Sem.run_bind, Sem.run_pure, Result.andThen_ok, List.map_toArray, List.map_cons, List.map_nil, hs, hx, hr]
    exact h b' c' w' R' h1' h2 h3 h4
end
/-- The list that has been told so far. -/
structure OutS (B U : Nat) (w wr : World) (vo : Value) (kk : Nat) (Ro : Nat → Value) (D : Nat → List Int) : Prop where
  line : LineB wr U 55 vo kk Ro
  rows : ∀ i, i < kk → IsRow wr (Ro i) (D i)
  bel : Below B w wr
  size : U ≤ wr.heap.size
theorem OutS.below {B U : Nat} {w wr w' : World} {vo : Value} {kk : Nat} {Ro : Nat → Value} {D : Nat → List Int} (h : OutS B U w wr vo kk Ro D) (hBU : B ≤ U) (k : Below wr.heap.size wr w') : OutS B U w w' vo kk Ro D :=
  ⟨h.line.below k, fun i hi => (h.rows i hi).below k, h.bel.trans (k.mono (Nat.le_trans hBU h.size)), Nat.le_trans h.size k.size⟩
theorem OutS.kept {B U : Nat} {w wr w' : World} {vo : Value} {kk : Nat} {Ro : Nat → Value} {D : Nat → List Int} (h : OutS B U w wr vo kk Ro D) (k : Kept B U wr w') : OutS B U w w' vo kk Ro D :=
  ⟨h.line.kept fun b hb => k.up b (h.line.lt hb).2 (h.line.lt hb).1, fun i hi => k.rows _ _ (h.rows i hi), h.bel.trans k.bel, Nat.le_trans h.size k.bel.size⟩
/-- Where a round stands. -/
def InvM (p : Int) (n : Nat) (A : Nat → Nat → PS) (kk B U g : Nat) (w : World) (vo : Value) (Ro : Nat → Value) (D : Nat → List Int) (wr : World) (m : Nat) : Prop :=
  ∃ M : MxL, Sm p n A kk M ∧ Far p n kk m M ∧ IsMat wr B U g n M ∧ OutS B U w wr vo kk Ro (fun i => monic p (D i)) ∧ ∀ i, i < kk → M i i = D i
/-- Places ahead of q of line k are done. -/
def spoilPart (p : Int) (k bad q : Nat) (M : MxL) : MxL := fun i j => if i = k ∧ k ≤ j ∧ j < q then addp p (M k j) (M bad j) 1 else M i j
section
variable {p : Int} {n k bad q : Nat} {M : MxL}
theorem spoilPart_start {i j : Nat} : spoilPart p k bad k M i j = M i j := if_neg (by omega)
theorem spoilPart_at {j : Nat} (h : q ≤ j) : spoilPart p k bad q M k j = M k j := if_neg (by omega)
theorem spoilPart_bad {j : Nat} (h : k < bad) : spoilPart p k bad q M bad j = M bad j := if_neg (by omega)
theorem spoilPart_next (hq : k ≤ q) {xs : List Int} (e : xs = addp p (M k q) (M bad q) 1) : updR (spoilPart p k bad q M) k q xs = spoilPart p k bad (q + 1) M := by
  funext i j
  by_cases h : i = k ∧ j = q
  · obtain ⟨rfl, rfl⟩ := h
    rw [updR_at, e]; exact (if_pos (by omega)).symm
  · rw [updR_ne _ _ h]
    unfold spoilPart
    by_cases h2 : i = k ∧ k ≤ j ∧ j < q
    · rw [if_pos h2, if_pos (by omega)]
    · rw [if_neg h2, if_neg (by omega)]
theorem spoilPart_all {i j : Nat} : spoilPart p k bad n M i j = spoil p n k bad M i j := rfl
theorem swpM_diag {x y i : Nat} (hx : k ≤ x) (hy : k ≤ y) (hi : i < k) : swpM k x y M i i = M i i := by unfold swpM; rw [swp_lt hx hi, swp_lt hy hi]
theorem clrM_diag {i : Nat} (hi : i < k) : clrM p n k M i i = M i i := by unfold clrM; rw [colPh_neg (by omega), rowPh_neg (by omega)]
theorem spoil_diag {i : Nat} (hi : i < k) : spoil p n k bad M i i = M i i := if_neg (by omega)
end
theorem dec_bool (P : Prop) : ∃ b : Bool, P ↔ b = true := by
  by_cases h : P
  · exact ⟨true, fun _ => rfl, fun _ => h⟩
  · exact ⟨false, fun h2 => absurd h2 h, fun h2 => by cases h2⟩
end Go.Proofs.Ytnkkkgaojhkniab

/- Several texts in one: Part, M0, Facts2, M1, M2. -/
import Derived.Test.YtnkkkgaojhkniabBase
import Derived.Test.YtnkkkgaojhkniabRegs
import Derived.Test.YtnkkkgaojhkniabCode
set_option linter.unusedVariables false
set_option linter.unusedSimpArgs false
/- Laws: an array that is a part of a greater one: stored, read out of a slot. -/
namespace Go.Proofs.Ytnkkkgaojhkniab
open Go.RowKit

/-- A part is written over. -/
theorem u8s_over (N m off : Nat) (F f : Nat → Int) (h : off + m ≤ N) :
    ((u8s N F).toList.take off ++ (u8s m f).toList ++ (u8s N F).toList.drop (off + m)).toArray = u8s N (fun j => if off ≤ j ∧ j < off + m then f (j - off) else F j) := by
  have hl : (u8s N F).toList.length = N := by rw [Array.length_toList, u8s_size]
  have hm : (u8s m f).toList.length = m := by rw [Array.length_toList, u8s_size]
  apply Array.ext_getElem?
  intro i
  rw [List.getElem?_toArray]
  by_cases h1 : i < off
  · rw [List.append_assoc, List.getElem?_append_left (by rw [List.length_take]; omega), List.getElem?_take, if_pos h1, Array.getElem?_toList, u8s_get _ (by omega), u8s_get _ (by omega), if_neg (by omega)]
  · by_cases h2 : i < off + m
    · rw [List.append_assoc, List.getElem?_append_right (by rw [List.length_take]; omega), List.length_take, hl, Nat.min_eq_left (by omega), List.getElem?_append_left (by omega), Array.getElem?_toList, u8s_get _ (by omega), u8s_get _ (by omega), if_pos (by omega)]
    · rw [List.getElem?_append_right (by rw [List.length_append, List.length_take]; omega), List.length_append, List.length_take, hl, Nat.min_eq_left (by omega), hm, List.getElem?_drop, Array.getElem?_toList, show off + m + (i - (off + m)) = i by omega]
      by_cases h3 : i < N
      · rw [u8s_get _ h3, u8s_get _ h3, if_neg (by omega)]
      · rw [Array.getElem?_eq_none (by rw [u8s_size]; omega), Array.getElem?_eq_none (by rw [u8s_size]; omega)]

section
variable {P : Program} {ops : Array Oper} {rest : List Oper} {o : Oper} {a : Act} {w : World} {Q : Exit → Act → World → Prop}

theorem wpl_store_part (hw : Region.wanted o (yielded ops a.tmps) = true) (t : TypeId) (x y : Operand) (hop : o.op = .store t x y) (g off : Nat) (hx : a.eval x = .pointer (some ⟨g, off, none⟩))
    (m N : Nat) (f F : Nat → Int) (hy : a.eval y = .agg (u8s m f)) (T : TypeId) (hb : Blk w g (u8s N F) T) (hs : (P.info? t).map (·.size) = some m) (ho : off + m ≤ N)
    (h : wpList P ops Q rest (a.put o.dst undef) (w.setRow g (u8s N (fun j => if off ≤ j ∧ j < off + m then f (j - off) else F j)))) : wpList P ops Q (o :: rest) a w := by
  refine wpl_wanted hw fun K hK => ?_
  have hK := hK _ _ h
  have hr := run_storeCells_at (P := P) g off T (u8s m f).toList 0 (u8s N F) w hb (by rw [Array.length_toList, u8s_size, u8s_size]; omega) (fun v hv => (Array.all_eq_true_iff_forall_mem.1 (u8s_oneCell m f)) v (by simpa using hv))
  simp only [Nat.add_zero, Array.length_toList, u8s_size] at hr
  rw [u8s_over N m off F f ho] at hr
  obtain ⟨i, hi, hsz⟩ := Option.map_eq_some_iff.1 hs
  unfold Oper.wp execOp
  simp only [hop, hx, hy, Instr.storeAt, Instr.sureAddr, storeVar, sizeOf, typeInfo, Value.cells]
  simp [Sem.run_bind, hi, hsz, u8s_size, hr, Oper.upon]
  exact hK

/-- An element, itself an array, of an array that lies in a slot. -/
theorem wpl_index_part (hw : Region.wanted o (yielded ops a.tmps) = true) (t : TypeId) (x ix : Operand) (hop : o.op = .index t x ix) (n e m : Nat) (F : Nat → Int) (e' : TypeId)
    (hx : a.eval x = .agg (u8s (n * m) F)) (k : IntKind) (i : Nat) (hi : a.eval ix = .int k (i : Int)) (hin : i < n)
    (ht : P.underlying t = some (.array n e)) (he : P.underlying e = some (.array m e')) (hs : (P.info? e).map (·.size) = some m)
    (h : wpList P ops Q rest (a.put o.dst (.agg (u8s m (fun j => F (i * m + j))))) w) : wpList P ops Q (o :: rest) a w := by
  refine wpl_wanted hw fun K hK => ?_
  have hK := hK _ _ h
  obtain ⟨inf, hinf, hsz⟩ := Option.map_eq_some_iff.1 hs
  have hsize : (sizeOf e).run P w = .ok m w := by simp [sizeOf, typeInfo, hinf, hsz, Sem.run_bind]
  have hag : (isAgg e).run P w = .ok true w := by unfold isAgg; rw [Sem.run_bind, run_underlying he w]; rfl
  have hex : (u8s (n * m) F).extract (i * m) (i * m + m) = u8s m (fun j => F (i * m + j)) := by
    have hle : i * m + m ≤ n * m := by rw [← Nat.succ_mul]; exact Nat.mul_le_mul_right _ hin
    refine eq_arr (by rw [Array.size_extract, u8s_size]; omega) fun j hj => ?_
    rw [Array.getElem?_extract, if_pos (by rw [u8s_size]; omega), u8s_get _ (by omega)]
  have hcond : (0 : Int) ≤ (i : Int) ∧ (i : Int) < (n : Int) := by omega
  unfold Oper.wp execOp
  simp only [hop, hx, hi, Instr.index, asIntOf, Sem.run_bind, Sem.run_pure, Result.andThen_ok, run_underlying ht w]
  rw [if_pos hcond]
  simp only [Sem.run_bind, hsize, Result.andThen_ok, Int.toNat_natCast, part, hag]
  simp only [if_true, Sem.run_bind, hsize, Result.andThen_ok, Sem.run_pure, hex]
  exact hK
end
end Go.Proofs.Ytnkkkgaojhkniab

/- Laws: elements, themselves arrays, of an array: their places, loads, zero values. No program in sight. -/
namespace Go.Proofs.Ytnkkkgaojhkniab
open Go.RowKit
section
variable {P : Program} {ops : Array Oper} {rest : List Oper} {o : Oper} {a : Act} {w : World} {Q : Exit → Act → World → Prop}
theorem wp_index_arrN (t e N m : Nat) (x i : Operand) (hop : o.op = .indexAddr t x i) (ht : P.underlying t = some (.array N e)) (hs : (P.info? e).map (·.size) = some m) (hm : m ≠ 0) (b k : Nat) (kd : IntKind)
    (hx : a.eval x = .pointer (some ⟨b, 0, none⟩)) (hi : a.eval i = .int kd (k : Int)) (hk : k < N) : o.wp P a w (fun a' w' => a' = a.put o.dst (.pointer (some ⟨b, k * m, none⟩)) ∧ Below w.heap.size w w') Q := by
  obtain ⟨ie, hie, hse⟩ := Option.map_eq_some_iff.1 hs
  unfold Oper.wp execOp
  simp [hop, hx, hi, Instr.indexAt, run_underlying ht w, asIntOf, Sem.run_bind, sizeOf, typeInfo, hie, hse, hk, Oper.upon, Addr.add, Instr.sureAddr]
  refine ⟨?_, Below.refl _ _⟩
  by_cases h0 : k = 0
  · subst h0; simp
  · rw [if_neg (by intro h; rcases Nat.mul_eq_zero.1 h with h | h <;> omega)]
theorem wp_index_at (t e N : Nat) (x i : Operand) (hop : o.op = .indexAddr t x i) (ht : P.underlying t = some (.array N e)) (hs : (P.info? e).map (·.size) = some 1) (b off k : Nat) (kd : IntKind)
    (hx : a.eval x = .pointer (some ⟨b, off, none⟩)) (hi : a.eval i = .int kd (k : Int)) (hk : k < N) : o.wp P a w (fun a' w' => a' = a.put o.dst (.pointer (some ⟨b, off + k, none⟩)) ∧ Below w.heap.size w w') Q := by
  obtain ⟨ie, hie, hse⟩ := Option.map_eq_some_iff.1 hs
  unfold Oper.wp execOp
  simp [hop, hx, hi, Instr.indexAt, run_underlying ht w, asIntOf, Sem.run_bind, sizeOf, typeInfo, hie, hse, hk, Oper.upon, Addr.add, Instr.sureAddr]
  refine ⟨?_, Below.refl _ _⟩
  by_cases h0 : k = 0
  · subst h0; first | rfl | simp
  · first | rfl | simp [h0]
theorem wp_load_midB (ty : TypeId) (x : Operand) (ho : o.op = .load ty x) (g off : Nat) (hx : a.eval x = .pointer (some ⟨g, off, none⟩)) (N n e : Nat) (F : Nat → Int) (T : TypeId) (hb : Blk w g (u8s N F) T) (hin : off + n ≤ N)
    (hu : P.underlying ty = some (.array n e)) (hi : (P.info? ty).map (·.size) = some n) :
    o.wp P a w (fun a' w' => a' = a.put o.dst (.agg (u8s n (fun j => F (off + j)))) ∧ Below w.heap.size w w') Q := by
  have hr := run_loadVar_mid (P := P) w g off ty ((List.range n).map (fun j => Value.int .u8 (F (off + j)))) (.array n e) (fun j v hv => by
    rw [List.getElem?_map] at hv
    obtain ⟨q, hq, rfl⟩ := Option.map_eq_some_iff.1 hv
    have hjn : j < n := by
      have := (List.getElem?_eq_some_iff.1 hq).1
      simpa using this
    rw [List.getElem?_range hjn] at hq
    obtain rfl := Option.some.inj hq
    rw [hb.cell, u8s_get _ (by omega)]) hu rfl (by simpa using hi)
  unfold Oper.wp execOp
  simp only [ho, hx, Instr.loadAt, Instr.sureAddr, Sem.run_bind, Sem.run_pure, Result.andThen_ok, hr]
  exact ⟨rfl, Below.refl _ _⟩
/-- The zero value of an array of arrays, written out ('Square{}'). -/
theorem wpl_build_zeroN (hw : Region.wanted o (yielded ops a.tmps) = true) (t n e m : Nat) (hop : o.op = .build t #[]) (cs : Array Value) (ht : P.underlying t = some (.array n e)) (hs : (P.info? e).map (·.size) = some m)
    (hz : (P.info? t).bind (·.zero) = some (.agg cs))
    (h : wpList P ops Q rest (a.put o.dst (.agg cs)) w) : wpList P ops Q (o :: rest) a w := by
  refine wpl_wanted hw fun K hK => ?_
  obtain ⟨i, hi, hz⟩ := Option.bind_eq_some_iff.1 hz
  obtain ⟨ie, hie, hse⟩ := Option.map_eq_some_iff.1 hs
  have hK := hK _ _ h
  unfold Oper.wp execOp
  simp [hop, Instr.build, zeroValue, typeInfo, hi, hz, Sem.run_bind, Value.cells, run_underlying ht w, sizeOf, hie, Instr.fill, Oper.upon]
  exact hK
theorem wp_not (t : TypeId) (x : Operand) (b : Bool) (hop : o.op = .unOp .not t x) (hx : a.eval x = .bool b) :
    o.wp P a w (fun a' w' => a' = a.put o.dst (.bool (!b)) ∧ Below w.heap.size w w') Q := by
  unfold Oper.wp execOp
  simp [hop, hx, Op.unary, Sem.run_bind, Oper.upon]
  exact Below.refl _ _
end
end Go.Proofs.Ytnkkkgaojhkniab

/- Closed facts of the program: the types of vectors and matrices. -/
namespace Go.Proofs.Ytnkkkgaojhkniab
open Go.RowKit
theorem zRow : (Try.prog.info? 28).bind (·.zero) = some (.agg (u8s 6 fun _ => 0)) := by kernel_rfl
theorem sRow : (Try.prog.info? 28).map (·.size) = some 6 := by kernel_rfl
theorem gRow : Try.prog.eqGuardType Try.prog.depth 28 = false := by kernel_rfl
theorem uRow : Try.prog.underlying 28 = some (.array 6 5) := by kernel_rfl
theorem zSquare : (Try.prog.info? 30).bind (·.zero) = some (.agg (u8s 36 fun _ => 0)) := by kernel_rfl
theorem sSquare : (Try.prog.info? 30).map (·.size) = some 36 := by kernel_rfl
theorem uSquare : Try.prog.underlying 30 = some (.array 6 28) := by kernel_rfl
theorem sArr6 : (Try.prog.info? 22).map (·.size) = some 6 := by kernel_rfl
theorem uArr6 : Try.prog.underlying 22 = some (.array 6 5) := by kernel_rfl
theorem sArr66 : (Try.prog.info? 23).map (·.size) = some 36 := by kernel_rfl
theorem uArr66 : Try.prog.underlying 23 = some (.array 6 22) := by kernel_rfl
end Go.Proofs.Ytnkkkgaojhkniab

/- Walks: laws.toRow, laws.toSquare. -/
namespace Go.Proofs.Ytnkkkgaojhkniab
open Go.RowKit
set_option maxHeartbeats 400000 in
theorem toRow_any (f : Nat → Int) (w : World) : Calls Try.prog 29 #[.agg (u8s 6 f)] w fun e w' => e = .returned (.agg (u8s 6 f)) ∧ Below w.heap.size w w' := by
  go_enter Try.func29, Try.ntmps29
  go_wp2_with (refine wpl_alloc_arr rfl 28 rfl _ zRow ?_)
  go_loopw [4] (fun i wr => ∃ k : Nat, k ≤ 6 ∧ i = .int .i64 k ∧ Blk wr w.heap.size (u8s 6 f) 22 ∧ Blk wr (w.heap.size + 1) (u8s 6 fun _ => 0) 28 ∧
    Blk wr (w.heap.size + 1 + 1) (u8s 6 fun j => if j < k then f j else 0) 28 ∧ Below w.heap.size w wr) (fun i _ => 6 - (intOf i).toNat)
  case atStart =>
    obtain ⟨hb, h0, h1, h2⟩ := boxes3 w (u8s 6 f) (u8s 6 fun _ => 0) (u8s 6 fun _ => 0) 22 28 28
    exact ⟨0, by omega, rfl, h0, h1, h2.cast (u8s_ext fun j _ => by simp), hb⟩
  case round =>
    obtain ⟨k, hk, rfl, b0, b1, b2, hb⟩ := hrel
    by_cases hlt : k < 6
    · have c0 : wr.cell? ⟨w.heap.size, k, none⟩ = some (.int .u8 (f k)) := by rw [b0.cell, u8s_get _ hlt]
      have c1 : wr.cell? ⟨w.heap.size + 1 + 1, k, none⟩ = some (.int .u8 0) := by rw [b2.cell, u8s_get _ hlt]; simp
      have c2 := b2.free k
      go_wp2_with (fail)
      go_roundw
      case rel =>
        refine ⟨k + 1, by omega, by go_num, b0.set_other _ _ (by simp; omega), b1.set_other _ _ (by simp), ?_, hb.setCell (by simp; omega) _⟩
        refine (b2.set k _).cast ?_
        rw [u8s_set]; apply u8s_ext; intro j _
        by_cases e1 : j = k
        · subst e1; simp
        · by_cases e2 : j < k
          · simp [e1, e2, show j < k + 1 by omega]
          · simp [e1, e2, show ¬ j < k + 1 by omega]
      case measure => simp [intOf] <;> omega
    · obtain rfl : k = 6 := by omega
      go_wp2_with (first | (refine wpl_load_arr rfl 28 _ rfl _ rfl _ _ b2 _ _ uRow sRow ?_) | (refine wpl_store_arr rfl 28 _ _ rfl _ rfl _ rfl _ _ b1 sRow rfl (u8s_oneCell _ _) ?_))
      refine bodyPost_ret (results_cell_row rfl _ _ _ _ _ _ _ rfl (b1.setRow_same) uRow rfl sRow) rfl ⟨?_, below_setRow hb (by omega) _⟩
      rw [u8s_ext (fun j hj => if_pos hj)]

set_option maxHeartbeats 400000 in
theorem toSquare_any (F : Nat → Int) (w : World) : Calls Try.prog 10 #[.agg (u8s 36 F)] w fun e w' => e = .returned (.agg (u8s 36 F)) ∧ Below w.heap.size w w' := by
  go_enter Try.func10, Try.ntmps10
  go_wp2_with (refine wpl_alloc_arr rfl 30 rfl _ zSquare ?_)
  go_loopw [4] (fun i wr => ∃ k : Nat, k ≤ 6 ∧ i = .int .i64 k ∧ Blk wr w.heap.size (u8s 36 F) 23 ∧ Blk wr (w.heap.size + 1) (u8s 36 fun _ => 0) 30 ∧
    Blk wr (w.heap.size + 1 + 1) (u8s 36 fun j => if j < k * 6 then F j else 0) 30 ∧ Below w.heap.size w wr) (fun i _ => 6 - (intOf i).toNat)
  case atStart =>
    obtain ⟨hb, h0, h1, h2⟩ := boxes3 w (u8s 36 F) (u8s 36 fun _ => 0) (u8s 36 fun _ => 0) 23 30 30
    exact ⟨0, by omega, rfl, h0, h1, h2.cast (u8s_ext fun j _ => by simp), hb⟩
  case round =>
    obtain ⟨k, hk, rfl, b0, b1, b2, hb⟩ := hrel
    by_cases hlt : k < 6
    · have hc : ∀ j, j < 6 → wr.cell? ⟨w.heap.size, k * 6 + j, none⟩ = some (.int .u8 (F (k * 6 + j))) := fun j hj => by rw [b0.cell, u8s_get _ (by omega)]
      have hcH := Lib.hid hc
      clear hc
      go_wp2_with (refine wpl_load_mid rfl 22 _ rfl _ (k * 6) rfl 6 _ _ hcH.out uArr6 sArr6 ?_)
      refine (toRow_any (fun j => F (k * 6 + j)) _).mono ?_
      rintro e w1 ⟨rfl, hb1⟩
      have b0' := b0.keep hb1
      have b1' := b1.keep hb1
      have b2' := b2.keep hb1
      have hb' := below_step hb hb1
      clear b0 b1 b2 hb hb1
      go_wp2_with (refine wpl_store_part rfl 28 _ _ rfl _ (k * 6) rfl 6 36 _ _ rfl _ b2' sRow (by omega) ?_)
      go_roundw
      case rel =>
        refine ⟨k + 1, by omega, by go_num, b0'.setRow_other (by omega), b1'.setRow_other (by omega), ?_, below_setRow hb' (by omega) _⟩
        refine (b2'.setRow_same).cast ?_
        apply u8s_ext; intro j _
        by_cases e1 : k * 6 ≤ j ∧ j < k * 6 + 6
        · rw [if_pos e1, if_pos (by omega), show k * 6 + (j - k * 6) = j by omega]
        · rw [if_neg e1]
          by_cases e2 : j < k * 6
          · rw [if_pos e2, if_pos (by omega)]
          · rw [if_neg e2, if_neg (by omega)]
      case measure => simp [intOf] <;> omega
    · obtain rfl : k = 6 := by omega
      go_wp2_with (first | (refine wpl_load_arr rfl 30 _ rfl _ rfl _ _ b2 _ _ uSquare sSquare ?_) | (refine wpl_store_arr rfl 30 _ _ rfl _ rfl _ rfl _ _ b1 sSquare rfl (u8s_oneCell _ _) ?_))
      refine bodyPost_ret (results_cell_row rfl _ _ _ _ _ _ _ rfl (b1.setRow_same) uSquare rfl sSquare) rfl ⟨?_, below_setRow hb (by omega) _⟩
      rw [u8s_ext (fun j hj => if_pos (show j < 6 * 6 by omega))]
end Go.Proofs.Ytnkkkgaojhkniab

/- Walks: checks of vectors and matrices on both sides. -/
namespace Go.Proofs.Ytnkkkgaojhkniab
open Go.RowKit

/-- A vector of a size: numbers modulo p, zeros from n on. -/
def RowOk (p n : Int) (f : Nat → Int) : Prop := ∀ j, j < 6 → f j < p ∧ (n ≤ (j : Int) → f j = 0)
def BadAt (p n : Int) (f : Nat → Int) (k : Nat) : Prop := p ≤ f k ∨ (n ≤ (k : Int) ∧ f k ≠ 0)
theorem RowOk_bad {p n : Int} {f : Nat → Int} {k : Nat} (hk : k < 6) (h : BadAt p n f k) : ¬ RowOk p n f := fun h1 => by
  have := h1 k hk
  rcases h with h | ⟨h, h2⟩
  · omega
  · exact h2 (this.2 h)

set_option maxHeartbeats 1000000 in
theorem isRow_any (p n : Int) (f : Nat → Int) (w : World) (hf : By f) (b : Bool) (hb : RowOk p n f ↔ b = true) :
    Calls Try.prog 58 #[.int .i64 p, .int .i64 n, .agg (u8s 6 f)] w fun e w' => e = .returned (.bool b) ∧ Below w.heap.size w w' := by
  have hfH := Lib.hid hf; clear hf
  have hbH := Lib.hid hb; clear hb
  have hB := Blk.new w (u8s 6 f) 28
  have hb0 := below_new w (.cells (u8s 6 f) 28)
  go_enter Try.func58, Try.ntmps58
  go_wp2_with (refine wpl_load_arr rfl 28 _ rfl _ rfl _ _ hB _ _ uRow sRow ?_)
  go_loop [10] (fun i => ∃ k : Nat, k ≤ 6 ∧ i = .int .i64 k ∧ ∀ j, j < k → f j < p ∧ (n ≤ (j : Int) → f j = 0)) (fun i => 6 - (intOf i).toNat)
  case atStart => exact ⟨0, by omega, rfl, fun j hj => by omega⟩
  case round =>
    obtain ⟨k, hk, rfl, hall⟩ := hrel
    have hallH := Lib.hid hall; clear hall hB
    by_cases hlt : k < 6
    · have hz := hfH.out k
      have hz1 := hz.1
      have hz2 := hz.2
      clear hz
      by_cases h1 : p ≤ f k
      · have e : b = false := by
          cases b
          · rfl
          · exact absurd (hbH.out.2 rfl) (RowOk_bad hlt (Or.inl h1))
        subst e
        go_wp2_with (refine wpl_index_arr rfl 28 _ _ rfl 6 5 (u8s 6 f) (.int .u8) rfl .i64 k rfl hlt uRow uByte rfl sByte _ (u8s_get f hlt) ?_)
        go_ret
        exact ⟨rfl, hb0⟩
      · have h1d : decide (p ≤ f k) = false := by simpa using h1
        by_cases h2 : n ≤ (k : Int)
        · by_cases h3 : f k = 0
          · have h3b : (f k != 0) = false := by simp [h3]
            have h3H := Lib.hid h3
            clear h3
            go_wp2_with (refine wpl_index_arr rfl 28 _ _ rfl 6 5 (u8s 6 f) (.int .u8) rfl .i64 k rfl hlt uRow uByte rfl sByte _ (u8s_get f hlt) ?_)
            go_round
            case rel => exact ⟨k + 1, by omega, by go_num, fun j hj => by
              by_cases e1 : j = k
              · subst e1; exact ⟨by omega, fun _ => h3H.out⟩
              · exact hallH.out j (by omega)⟩
            case measure => simp [intOf] <;> omega
          · have h3b : (f k != 0) = true := by simpa using h3
            have e : b = false := by
              cases b
              · rfl
              · exact absurd (hbH.out.2 rfl) (RowOk_bad hlt (Or.inr ⟨h2, h3⟩))
            subst e
            clear h3
            go_wp2_with (refine wpl_index_arr rfl 28 _ _ rfl 6 5 (u8s 6 f) (.int .u8) rfl .i64 k rfl hlt uRow uByte rfl sByte _ (u8s_get f hlt) ?_)
            go_ret
            exact ⟨rfl, hb0⟩
        · have h2d : decide (n ≤ (k : Int)) = false := by simpa using h2
          go_wp2_with (refine wpl_index_arr rfl 28 _ _ rfl 6 5 (u8s 6 f) (.int .u8) rfl .i64 k rfl hlt uRow uByte rfl sByte _ (u8s_get f hlt) ?_)
          go_round
          case rel => exact ⟨k + 1, by omega, by go_num, fun j hj => by
            by_cases e1 : j = k
            · subst e1; exact ⟨by omega, fun h => absurd h h2⟩
            · exact hallH.out j (by omega)⟩
          case measure => simp [intOf] <;> omega
    · obtain rfl : k = 6 := by omega
      have e : b = true := hbH.out.1 hallH.out
      subst e
      go_wp2_with fail
      go_ret
      exact ⟨rfl, hb0⟩

set_option maxHeartbeats 1000000 in
theorem l05Row_any (p n : Int) (f : Nat → Int) (w : World) (hf : By f) (b : Bool) (hb : RowOk p n f ↔ b = true) :
    Calls Try.prog 49 #[.int .i64 p, .int .i64 n, .agg (u8s 6 f)] w fun e w' => e = .returned (.bool b) ∧ Below w.heap.size w w' := by
  have hfH := Lib.hid hf; clear hf
  have hbH := Lib.hid hb; clear hb
  have hB := Blk.new w (u8s 6 f) 28
  have hb0 := below_new w (.cells (u8s 6 f) 28)
  go_enter Try.func49, Try.ntmps49
  go_wp2_with fail
  go_loop [7] (fun i => ∃ k : Nat, k ≤ 6 ∧ i = .int .i64 k ∧ ∀ j, j < k → f j < p ∧ (n ≤ (j : Int) → f j = 0)) (fun i => 6 - (intOf i).toNat)
  case atStart => exact ⟨0, by omega, rfl, fun j hj => by omega⟩
  case round =>
    obtain ⟨k, hk, rfl, hall⟩ := hrel
    have hallH := Lib.hid hall; clear hall
    by_cases hlt : k < 6
    · have c0 : (w.alloc (.cells (u8s 6 f) 28)).cell? ⟨w.heap.size, k, none⟩ = some (.int .u8 (f k)) := by rw [hB.cell, u8s_get _ hlt]
      have hz := hfH.out k
      have hz1 := hz.1
      have hz2 := hz.2
      clear hz
      by_cases h1 : p ≤ f k
      · have e : b = false := by
          cases b
          · rfl
          · exact absurd (hbH.out.2 rfl) (RowOk_bad hlt (Or.inl h1))
        subst e
        go_wp2_with fail
        go_ret
        exact ⟨rfl, hb0⟩
      · have h1d : decide (p ≤ f k) = false := by simpa using h1
        by_cases h2 : n ≤ (k : Int)
        · by_cases h3 : f k = 0
          · have h3b : (f k != 0) = false := by simp [h3]
            have h3H := Lib.hid h3
            clear h3
            go_wp2_with fail
            go_round
            case rel => exact ⟨k + 1, by omega, by go_num, fun j hj => by
              by_cases e1 : j = k
              · subst e1; exact ⟨by omega, fun _ => h3H.out⟩
              · exact hallH.out j (by omega)⟩
            case measure => simp [intOf] <;> omega
          · have h3b : (f k != 0) = true := by simpa using h3
            have e : b = false := by
              cases b
              · rfl
              · exact absurd (hbH.out.2 rfl) (RowOk_bad hlt (Or.inr ⟨h2, h3⟩))
            subst e
            clear h3
            go_wp2_with fail
            go_ret
            exact ⟨rfl, hb0⟩
        · have h2d : decide (n ≤ (k : Int)) = false := by simpa using h2
          go_wp2_with fail
          go_round
          case rel => exact ⟨k + 1, by omega, by go_num, fun j hj => by
            by_cases e1 : j = k
            · subst e1; exact ⟨by omega, fun h => absurd h h2⟩
            · exact hallH.out j (by omega)⟩
          case measure => simp [intOf] <;> omega
    · obtain rfl : k = 6 := by omega
      have e : b = true := hbH.out.1 hallH.out
      subst e
      go_wp2_with fail
      go_ret
      exact ⟨rfl, hb0⟩
end Go.Proofs.Ytnkkkgaojhkniab

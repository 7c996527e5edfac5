/- Walks: shifts and masks of small numbers; how many ones. -/
import Derived.Test.YtnkkkgaojhkniabSp2
set_option linter.unusedVariables false
set_option linter.unusedSimpArgs false
namespace Go.Proofs.Ytnkkkgaojhkniab
open Go.RowKit
section
variable {P : Program} {Q : Exit → Act → World → Prop} {o : Oper} {a : Act} {w : World} {ops : Array Oper} {rest : List Oper}
theorem wpK_shr {K : Act → World → Prop} (t t' : TypeId) (x y : Operand) (hop : o.op = .binOp .shr t x y t') (m i : Nat) (hx : a.eval x = .int .i64 (m : Int)) (hy : a.eval y = .int .u64 (i : Int)) (hi : i ≤ 60) (h : K (a.put o.dst (.int .i64 ((m / 2 ^ i : Nat) : Int))) w) : o.wp P a w K Q := by
  have h1 : min ((i : Int).toNat) IntKind.i64.bits = i := by show min ((i : Int).toNat) 64 = i; omega
  have h2 : ((m : Int).fdiv (2 ^ i)) = ((m / 2 ^ i : Nat) : Int) := by
    rw [Int.fdiv_eq_ediv_of_nonneg _ (by exact Int.le_of_lt (Int.pow_pos (by decide)))]
    simp
  unfold Oper.wp execOp
  simp only [hop, hx, hy, eqGuard, binOp, Op.shift, Sem.run_bind, Sem.run_pure, Result.andThen_ok, Bool.not_false, if_true]
  rw [if_neg (by omega), h1]
  simp only [h2, Sem.run_pure, Result.andThen_ok, Oper.upon]
  exact h
theorem wpK_and1 {K : Act → World → Prop} (t t' : TypeId) (x : Operand) (hop : o.op = .binOp .and t x (.const (.int .i64 1)) t') (m : Nat) (hm : m < 64) (hx : a.eval x = .int .i64 (m : Int)) (h : K (a.put o.dst (.int .i64 ((m % 2 : Nat) : Int))) w) : o.wp P a w K Q := by
  have h1 : IntKind.i64.wrap ((BitVec.ofInt IntKind.i64.bits (m : Int) &&& BitVec.ofInt IntKind.i64.bits 1).toNat : Int) = ((m % 2 : Nat) : Int) := by
    have key : ∀ m : Fin 64, IntKind.i64.wrap ((BitVec.ofInt IntKind.i64.bits (m.val : Int) &&& BitVec.ofInt IntKind.i64.bits 1).toNat : Int) = ((m.val % 2 : Nat) : Int) := by decide +kernel
    exact key ⟨m, hm⟩
  have hc : a.eval (.const (.int .i64 1)) = .int .i64 1 := rfl
  unfold Oper.wp execOp
  simp only [hop, hx, hc, eqGuard, binOp, Op.intBits, Sem.run_bind, Sem.run_pure, Result.andThen_ok, Bool.not_false, if_true, ne_eq, not_true, if_false, h1, Oper.upon]
  exact h
theorem wpK_shl1 {K : Act → World → Prop} (t t' : TypeId) (y : Operand) (hop : o.op = .binOp .shl t (.const (.int .i64 1)) y t') (i : Nat) (hi : i ≤ 6) (hy : a.eval y = .int .u64 (i : Int)) (h : K (a.put o.dst (.int .i64 ((2 ^ i : Nat) : Int))) w) : o.wp P a w K Q := by
  have h1 : min ((i : Int).toNat) IntKind.i64.bits = i := by show min ((i : Int).toNat) 64 = i; omega
  have h2 : IntKind.i64.wrap (1 * 2 ^ i) = ((2 ^ i : Nat) : Int) := by
    have key : ∀ i : Fin 7, IntKind.i64.wrap (1 * 2 ^ i.val) = ((2 ^ i.val : Nat) : Int) := by decide +kernel
    exact key ⟨i, by omega⟩
  have hc : a.eval (.const (.int .i64 1)) = .int .i64 1 := rfl
  unfold Oper.wp execOp
  simp only [hop, hc, hy, eqGuard, binOp, Op.shift, Sem.run_bind, Sem.run_pure, Result.andThen_ok, Bool.not_false, if_true]
  rw [if_neg (by omega), h1]
  simp only [h2, Sem.run_pure, Result.andThen_ok, Oper.upon]
  exact h
theorem wpK_subN {K : Act → World → Prop} (t t' : TypeId) (x y : Operand) (hop : o.op = .binOp .sub t x y t') (m k : Nat) (hx : a.eval x = .int .i64 (m : Int)) (hy : a.eval y = .int .i64 (k : Int)) (hm : m ≤ 1000) (hk : k ≤ m) (h : K (a.put o.dst (.int .i64 ((m - k : Nat) : Int))) w) : o.wp P a w K Q := by
  have h2 : IntKind.i64.wrap ((m : Int) - (k : Int)) = ((m - k : Nat) : Int) := by rw [IntKind.wrap_i64]; omega
  unfold Oper.wp execOp
  simp only [hop, hx, hy, eqGuard, binOp, Op.intArith, Sem.run_bind, Sem.run_pure, Result.andThen_ok, Bool.not_false, if_true, ne_eq, not_true, if_false, h2, Oper.upon]
  exact h
theorem wp_convU (s d : TypeId) (x : Operand) (hop : o.op = .convert s d x) (v : Nat) (hx : a.eval x = .int .i64 (v : Int)) (h1 : v ≤ 1000) (hs : P.underlying s = some (.int .i64)) (hd : P.underlying d = some (.int .u64)) :
    o.wp P a w (fun a' w' => a' = a.put o.dst (.int .u64 (v : Int)) ∧ Below w.heap.size w w') Q := by
  have hk : P.intKind d = .u64 := by simp [Program.intKind, hd]
  have h2 := run_convert_int (P := P) w s d .i64 (v : Int) (by rw [hs]; rfl) (by rw [hk]; exact hd)
  have hw : IntKind.u64.wrap (v : Int) = (v : Int) := by
    simp [IntKind.wrap, IntKind.bits, IntKind.signed]
    omega
  rw [hk, hw] at h2
  unfold Oper.wp execOp
  simp [hop, hx, h2, Oper.upon]
  exact Below.refl _ _
theorem wpl_neg (hw : Region.wanted o (yielded ops a.tmps) = true) (t : TypeId) (x : Operand) (hop : o.op = .unOp .neg t x) (A : Int) (hx : a.eval x = .int .i64 A) (h0 : -1000 ≤ A) (h1 : A ≤ 1000)
    (h : wpList P ops Q rest (a.put o.dst (.int .i64 (-A))) w) : wpList P ops Q (o :: rest) a w := by
  refine wpl_wanted hw fun K hK => ?_
  have hw : IntKind.i64.wrap (-A) = -A := by rw [IntKind.wrap_i64]; omega
  have hw0 : IntKind.i64.wrap (0 - A) = -A := by rw [IntKind.wrap_i64]; omega
  unfold Oper.wp execOp
  simp [hop, hx, Op.unary, Op.intArith, Sem.run_bind, Oper.upon, hw, hw0]
  exact hK _ _ h
theorem wpl_shr (hw : Region.wanted o (yielded ops a.tmps) = true) (t t' : TypeId) (x y : Operand) (hop : o.op = .binOp .shr t x y t') (m i : Nat) (hx : a.eval x = .int .i64 (m : Int)) (hy : a.eval y = .int .u64 (i : Int)) (hi : i ≤ 60) (q : Nat) (hq : m / 2 ^ i = q)
    (h : wpList P ops Q rest (a.put o.dst (.int .i64 (q : Int))) w) : wpList P ops Q (o :: rest) a w := wpl_wanted hw fun K hK => wpK_shr t t' x y hop m i hx hy hi (by rw [hq]; exact hK _ _ h)
theorem wpl_and1 (hw : Region.wanted o (yielded ops a.tmps) = true) (t t' : TypeId) (x : Operand) (hop : o.op = .binOp .and t x (.const (.int .i64 1)) t') (m : Nat) (hm : m < 64) (hx : a.eval x = .int .i64 (m : Int)) (b : Nat) (hb : m % 2 = b)
    (h : wpList P ops Q rest (a.put o.dst (.int .i64 (b : Int))) w) : wpList P ops Q (o :: rest) a w := wpl_wanted hw fun K hK => wpK_and1 t t' x hop m hm hx (by rw [hb]; exact hK _ _ h)
theorem wpl_shl1 (hw : Region.wanted o (yielded ops a.tmps) = true) (t t' : TypeId) (y : Operand) (hop : o.op = .binOp .shl t (.const (.int .i64 1)) y t') (i : Nat) (hi : i ≤ 6) (hy : a.eval y = .int .u64 (i : Int))
    (h : wpList P ops Q rest (a.put o.dst (.int .i64 ((2 ^ i : Nat) : Int))) w) : wpList P ops Q (o :: rest) a w := wpl_wanted hw fun K hK => wpK_shl1 t t' y hop i hi hy (hK _ _ h)
theorem wpl_index_bs (hw : Region.wanted o (yielded ops a.tmps) = true) (t e : TypeId) (m : Nat) (x i : Operand) (hop : o.op = .indexAddr t x i) (ht : P.underlying t = some (.slice e)) (hs : (P.info? e).map (·.size) = some m) (hm : m ≠ 0) (b n c k : Nat) (kd : IntKind)
    (hx : a.eval x = .slice (some ⟨b, 0, none⟩) n c) (hi : a.eval i = .int kd (k : Int)) (hk : k < n) (h : wpList P ops Q rest (a.put o.dst (.pointer (some ⟨b, k * m, none⟩))) w) : wpList P ops Q (o :: rest) a w := by
  refine wpl_wanted hw fun K hK => ?_
  have hK := hK _ _ h
  obtain ⟨ie, hie, hse⟩ := Option.map_eq_some_iff.1 hs
  have e2 : (if k * m = 0 then (⟨b, 0, none⟩ : Addr) else ⟨b, k * m, none⟩) = ⟨b, k * m, none⟩ := by
    split
    · rename_i h0; rw [h0]
    · rfl
  unfold Oper.wp execOp
  simp [hop, hx, hi, Instr.indexAt, run_underlying ht w, asIntOf, Sem.run_bind, sizeOf, typeInfo, hie, hse, hk, Oper.upon, Addr.add]
  have e3 : (if k = 0 ∨ m = 0 then (⟨b, 0, none⟩ : Addr) else ⟨b, k * m, none⟩) = ⟨b, k * m, none⟩ := by
    by_cases h0 : k = 0
    · subst h0; simp
    · rw [if_neg (by omega)]
  first | exact hK | (rw [e3]; exact hK) | (rw [e2]; exact hK)
theorem wpl_load_bs (hw : Region.wanted o (yielded ops a.tmps) = true) (ty : TypeId) (x : Operand) (ho : o.op = .load ty x) (m g off : Nat) (hx : a.eval x = .pointer (some ⟨g, off, none⟩)) (f : Nat → Int) (hc : ∀ j, j < m → w.cell? ⟨g, off + j, none⟩ = some (.int .u8 (f j))) (e : Nat)
    (hu : P.underlying ty = some (.array m e)) (hi : (P.info? ty).map (·.size) = some m) (h : wpList P ops Q rest (a.put o.dst (.agg (u8s m f))) w) : wpList P ops Q (o :: rest) a w := by
  refine wpl_wanted hw fun K hK => ?_
  have hr := run_loadVar_mid (P := P) w g off ty ((List.range m).map (fun j => Value.int .u8 (f j))) (.array m e) (fun j v hv => by
    rw [List.getElem?_map] at hv
    obtain ⟨q, hq, rfl⟩ := Option.map_eq_some_iff.1 hv
    have hjn : j < m := by
      have := (List.getElem?_eq_some_iff.1 hq).1
      simpa using this
    rw [List.getElem?_range hjn] at hq
    obtain rfl := Option.some.inj hq
    exact hc j hjn) hu rfl (by simpa using hi)
  unfold Oper.wp execOp
  simp only [ho, hx, Instr.loadAt, Instr.sureAddr, Sem.run_bind, Sem.run_pure, Result.andThen_ok, hr]
  exact hK _ _ h
end
theorem ones_zero : ∀ f, ones f 0 = 0
  | 0 => rfl
  | f + 1 => by show 0 % 2 + ones f (0 / 2) = 0; rw [Nat.zero_div, ones_zero f]
set_option maxHeartbeats 1000000 in
theorem l05Ones_any (m : Nat) (w : World) (hm : m < 64) : Calls Try.prog 83 #[.int .i64 m] w fun e w' => e = .returned (.int .i64 (ones 6 m : Nat)) ∧ Below w.heap.size w w' := by
  go_enter Try.func83, Try.ntmps83
  go_wp2_with fail
  go_loopw [0, 3] (fun vm vo wr => ∃ (f x y : Nat), vm = .int .i64 (x : Int) ∧ vo = .int .i64 (y : Int) ∧ f ≤ 6 ∧ x < 2 ^ f ∧ Hid (y + ones f x = ones 6 m) ∧ y ≤ 6 - f ∧ Below w.heap.size w wr) (fun vm _ _ => (intOf vm).toNat)
  case atStart => exact ⟨6, m, 0, rfl, rfl, Nat.le_refl _, hm, Lib.hid (Nat.zero_add _), by omega, Below.refl _ _⟩
  case round =>
    obtain ⟨f, x, y, rfl, rfl, hf, hx, hy, hyl, hb⟩ := hrel
    have h64 : 2 ^ f ≤ 2 ^ 6 := Nat.pow_le_pow_right (by omega) hf
    by_cases h0 : x = 0
    · subst h0
      have hfin := Lib.hid (by have := hy.out; rw [ones_zero] at this; exact this : y = ones 6 m)
      simp only [Int.natCast_zero]
      clear hy
      go_wp2_with fail
      go_ret
      exact ⟨congrArg (fun q : Nat => Ending.returned (.int .i64 (q : Int))) hfin.out, hb⟩
    · obtain ⟨f, rfl⟩ : ∃ k, f = k + 1 := ⟨f - 1, by rcases f with _ | f; exfalso; simp at hx; omega; omega⟩
      have h1 : ((x : Int)).tmod 2 = ((x % 2 : Nat) : Int) := by rw [Int.tmod_eq_emod_of_nonneg (by omega)]; omega
      have h2 : ((x : Int)).tdiv 2 = ((x / 2 : Nat) : Int) := by rw [Int.tdiv_eq_ediv_of_nonneg (by omega)]; omega
      have hx0 : (0 : Int) < (x : Int) := by omega
      have hx6 : (x : Int) < 64 := by omega
      have hy6 : (y : Int) ≤ 6 := by omega
      have hx2 : x / 2 < 2 ^ f := by rw [Nat.pow_succ] at hx; omega
      have hm2 : ((x % 2 : Nat) : Int) ≤ 1 := by omega
      have hnx := Lib.hid (by have := hy.out; have e : ones (f + 1) x = x % 2 + ones f (x / 2) := rfl; omega : y + x % 2 + ones f (x / 2) = ones 6 m)
      have hyn : y + x % 2 ≤ 6 - f := by omega
      obtain ⟨q, hq⟩ : ∃ q, x / 2 = q := ⟨_, rfl⟩
      obtain ⟨r, hr⟩ : ∃ r, x % 2 = r := ⟨_, rfl⟩
      rw [hr] at h1 hnx hyn hm2
      rw [hq] at h2 hx2 hnx
      have hqx : q < x := by omega
      clear hy hx h0 hq hr h64
      go_wp2_with fail
      go_roundw
      case rel => exact ⟨f, q, y + r, rfl, by go_num, by omega, hx2, hnx, hyn, hb⟩
      case measure => simp [intOf] <;> omega
end Go.Proofs.Ytnkkkgaojhkniab

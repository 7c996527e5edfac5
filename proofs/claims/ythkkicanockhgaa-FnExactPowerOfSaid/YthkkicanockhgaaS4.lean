/- Walks: the polynomials 1 and T, as arrays. -/
import Derived.Test.YthkkicanockhgaaS3
import Derived.Test.YthkkicanockhgaaTwo
namespace Go.Proofs.Ythkkicanockhgaa
open Go.RowKit
section
variable {P : Program} {ops : Array Oper} {rest : List Oper} {o : Oper} {a : Act} {w : World} {Q : Exit → Act → World → Prop}
theorem wpl_build_one (hw : Region.wanted o (yielded ops a.tmps) = true) (t n e : Nat) (x : Operand) (hop : o.op = .build t #[(0, x)]) (c : Int) (hx : a.eval x = .int .u8 c) (hn : 1 ≤ n) (ht : P.underlying t = some (.array n e)) (hs : (P.info? e).map (·.size) = some 1)
    (hz : (P.info? t).bind (·.zero) = some (.agg (u8s n fun _ => 0)))
    (h : wpList P ops Q rest (a.put o.dst (.agg (u8s n fun j => if j = 0 then c else 0))) w) : wpList P ops Q (o :: rest) a w := by
  refine wpl_wanted hw fun K hK => ?_
  obtain ⟨i, hi, hz⟩ := Option.bind_eq_some_iff.1 hz
  obtain ⟨ie, hie, hse⟩ := Option.map_eq_some_iff.1 hs
  have hK := hK _ _ h
  rw [← u8s_set n (fun _ => 0) 0 c] at hK
  have hne : ¬ (u8s n fun _ => (0 : Int)) = #[] := fun h => by have := congrArg Array.size h; rw [u8s_size] at this; simp at this; omega
  unfold Oper.wp execOp
  simp [hop, hx, Instr.build, zeroValue, typeInfo, hi, hz, Sem.run_bind, Value.cells, run_underlying ht w, sizeOf, hie, hse, Instr.fill, Oper.upon, u8s_size, hne]
  exact hK
theorem wpl_build_two (hw : Region.wanted o (yielded ops a.tmps) = true) (t n e : Nat) (x y : Operand) (hop : o.op = .build t #[(0, x), (1, y)]) (c d : Int) (hx : a.eval x = .int .u8 c) (hy : a.eval y = .int .u8 d) (hn : 2 ≤ n) (ht : P.underlying t = some (.array n e)) (hs : (P.info? e).map (·.size) = some 1)
    (hz : (P.info? t).bind (·.zero) = some (.agg (u8s n fun _ => 0)))
    (h : wpList P ops Q rest (a.put o.dst (.agg (u8s n fun j => if j = 1 then d else if j = 0 then c else 0))) w) : wpList P ops Q (o :: rest) a w := by
  refine wpl_wanted hw fun K hK => ?_
  obtain ⟨i, hi, hz⟩ := Option.bind_eq_some_iff.1 hz
  obtain ⟨ie, hie, hse⟩ := Option.map_eq_some_iff.1 hs
  have hK := hK _ _ h
  rw [← u8s_set n (fun j => if j = 0 then c else 0) 1 d, ← u8s_set n (fun _ => 0) 0 c] at hK
  have hne : ¬ (u8s n fun _ => (0 : Int)) = #[] := fun h => by have := congrArg Array.size h; rw [u8s_size] at this; simp at this; omega
  unfold Oper.wp execOp
  simp [hop, hx, hy, Instr.build, zeroValue, typeInfo, hi, hz, Sem.run_bind, Value.cells, run_underlying ht w, sizeOf, hie, hse, Instr.fill, Oper.upon, u8s_size, hne, show ¬ n < 2 by omega]
  exact hK
end
theorem eval_const {a : Act} {v : Value} : a.eval (.const v) = v := rfl
/-- How long the polynomial in a block is. -/
def polyLen (w : World) (g : Nat) : Nat := match w.heap[g]? with
  | some (.cells cs _ _) => (mkp 64 fun i => match cs[i]? with | some (.int _ z) => z | _ => 0).length
  | _ => 0
theorem polyLen_blk {w : World} {g T : Nat} {xs : List Int} (h : Blk w g (u8s 64 (cf xs)) T) (ht : Tr xs) (hl : xs.length ≤ 64) : polyLen w g = xs.length := by
  unfold polyLen
  unfold Blk at h
  rw [h]
  have : (mkp 64 fun i => match (u8s 64 (cf xs))[i]? with | some (.int _ z) => z | _ => 0) = xs := mkp_eq ht fun i => by
    by_cases hi : i < 64
    · rw [if_pos hi, u8s_get _ hi]
    · rw [if_neg hi, cf_ge xs i (by omega)]
  show (mkp 64 fun i => match (u8s 64 (cf xs))[i]? with | some (.int _ z) => z | _ => 0).length = _
  rw [this]
theorem sumF_list (p t : Int) (xs ys : List Int) : sumF p t (cf xs) (cf ys) = cf (addp p xs ys t) := by funext i; exact (addp_cf xs ys t i).symm
theorem l01Add_list (xs ys : List Int) (p k : Int) (w : World) (hx : P64 p xs) (hy : P64 p ys) (hk0 : -1000 ≤ k) (hk1 : k ≤ 1000) :
    Calls Try.prog 45 #[.int .i64 p, .agg (u8s 64 (cf xs)), .agg (u8s 64 (cf ys)), .int .i64 k] w fun e w' => e = .returned (.agg (u8s 64 (cf (addp p xs ys k)))) ∧ Below w.heap.size w w' := by
  rw [← sumF_list]; exact l01Add_sum _ _ p k w hx.pr hx.by hy.by hk0 hk1
theorem cf_void : cf [] = fun _ => 0 := by funext i; exact cf_nil i
theorem P64.nil {p : Int} (hp : Pr p) : P64 p [] := ⟨hp, Po_nil (by have := hp.pos; omega), by simp⟩
theorem P64.addp {p : Int} {xs ys : List Int} (hx : P64 p xs) (hy : P64 p ys) (t : Int) : P64 p (addp p xs ys t) :=
  ⟨hx.pr, addp_Po (by have := hx.pr.pos; omega) _ _ _, Nat.le_trans (addp_length p xs ys t) (Nat.max_le.2 ⟨hx.le, hy.le⟩)⟩
theorem l01Add_zero (ys : List Int) (p k : Int) (w : World) (hy : P64 p ys) (hk0 : -1000 ≤ k) (hk1 : k ≤ 1000) :
    Calls Try.prog 45 #[.int .i64 p, .agg (u8s 64 fun _ => 0), .agg (u8s 64 (cf ys)), .int .i64 k] w fun e w' => e = .returned (.agg (u8s 64 (cf (addp p [] ys k)))) ∧ Below w.heap.size w w' := by
  have := l01Add_list [] ys p k w (P64.nil hy.pr) hy hk0 hk1
  rwa [cf_void] at this
theorem l01Times_in (xs ys : List Int) (p : Int) (w : World) (hx : P64 p xs) (hy : P64 p ys) (hl : (mulp p xs ys).length ≤ 64) :
    Calls Try.prog 50 #[.int .i64 p, .agg (u8s 64 (cf xs)), .agg (u8s 64 (cf ys))] w fun e w' => e = .returned (.tuple #[.agg (u8s 64 (cf (mulp p xs ys))), .bool true]) ∧ Below w.heap.size w w' := by
  have := l01Times_any xs ys p w hx hy
  rwa [show toldF (mulp p xs ys) = cf (mulp p xs ys) from if_pos hl, decide_eq_true hl] at this
theorem l01One_any (w : World) : Calls Try.prog 68 #[] w fun e w' => e = .returned (.agg (u8s 64 (cf [1]))) ∧ Below w.heap.size w w' := by
  have hb0 := below_new w (.cells (u8s 64 fun _ => 0) 23)
  have hZ := Blk.new w (u8s 64 fun _ => 0) 23
  have he : u8s 64 (fun j => if j = 0 then (1 : Int) else 0) = u8s 64 (cf [1]) := u8s_ext fun i _ => (one_cf 1 i).symm
  have heH := Lib.hid he
  clear he
  go_enter Try.func68, Try.ntmps68
  go_wp2_with (first | (refine wpl_alloc_arr rfl 23 rfl _ zPoly ?_) | (refine wpl_build_one rfl 23 64 5 _ rfl 1 rfl (by decide) uPoly sByte zPoly ?_) | (refine wpl_store_arr rfl 23 _ _ rfl _ rfl _ rfl _ _ hZ sPoly rfl (u8s_oneCell _ _) ?_))
  exact bodyPost_ret (res_c rfl rfl (hZ.setRow_same (cs := u8s 64 _)) uPoly sPoly) rfl ⟨by rw [heH.out], below_setRow hb0 (by omega) _⟩
theorem l01T_any (w : World) : Calls Try.prog 88 #[] w fun e w' => e = .returned (.agg (u8s 64 (cf [0, 1]))) ∧ Below w.heap.size w w' := by
  have hb0 := below_new w (.cells (u8s 64 fun _ => 0) 23)
  have hZ := Blk.new w (u8s 64 fun _ => 0) 23
  have he : u8s 64 (fun j => if j = 1 then (1 : Int) else if j = 0 then 0 else 0) = u8s 64 (cf [0, 1]) := u8s_ext fun i _ => by
    rcases i with _ | _ | i
    · rfl
    · rfl
    · rw [cf_ge [0, 1] _ (by simp)]; simp
  have heH := Lib.hid he
  clear he
  go_enter Try.func88, Try.ntmps88
  go_wp2_with (first | (refine wpl_alloc_arr rfl 23 rfl _ zPoly ?_) | (refine wpl_build_two rfl 23 64 5 _ _ rfl 0 1 rfl rfl (by decide) uPoly sByte zPoly ?_) | (refine wpl_store_arr rfl 23 _ _ rfl _ rfl _ rfl _ _ hZ sPoly rfl (u8s_oneCell _ _) ?_))
  exact bodyPost_ret (res_c rfl rfl (hZ.setRow_same (cs := u8s 64 _)) uPoly sPoly) rfl ⟨by rw [heH.out], below_setRow hb0 (by omega) _⟩
end Go.Proofs.Ythkkicanockhgaa

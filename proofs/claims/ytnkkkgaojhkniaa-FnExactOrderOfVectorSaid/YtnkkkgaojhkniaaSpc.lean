/- Several texts in one: S1, S2, S3, S4. -/
import Derived.Test.YtnkkkgaojhkniaaRws
import Derived.BigRegion
import Derived.Test.YtnkkkgaojhkniaaPure
import Derived.Test.YtnkkkgaojhkniaaRegs
set_option linter.unusedVariables false
set_option linter.unusedSimpArgs false
/- Walks: sums of arrays. -/
namespace Go.Proofs.Ytnkkkgaojhkniaa
open Go.RowKit

/-- A sum with a multiple. -/
def sumF (p t : Int) (f g : Nat → Int) : Nat → Int := fun i => (f i + t * g i) % p
/-- A byte less than p stays itself. -/
theorem addF_range {p : Int} (hp : Pr p) (x : Int) : 0 ≤ x % p ∧ x % p ≤ 6 := by
  have := hp.pos
  have h1 := Int.emod_nonneg x (show p ≠ 0 by omega)
  have h2 := Int.emod_lt_of_pos x (show 0 < p by omega)
  omega

set_option maxHeartbeats 2000000 in
theorem l01Add_any (f g : Nat → Int) (p k : Int) (w : World) (hp : Pr p) (hf : By f) (hg : By g) (hk0 : -1000 ≤ k) (hk1 : k ≤ 1000) :
    Calls Try.prog 69 #[.int .i64 p, .agg (u8s 64 f), .agg (u8s 64 g), .int .i64 k] w fun e w' => e = .returned (.agg (u8s 64 fun i => (f i + k * g i) % p)) ∧ Below w.heap.size w w' := by
  have hfH := Lib.hid hf
  have hgH := Lib.hid hg
  have hpH := Lib.hid hp
  have hp1 := hp.pos.1
  have hp2 := hp.pos.2
  have hpz : (p == 0) = false := by rw [beq_eq_false_iff_ne]; omega
  obtain ⟨hb0, hB1, hB2, hB3⟩ := boxes3 w (u8s 64 f) (u8s 64 g) (u8s 64 fun _ => 0) 33 33 33
  clear hf hg hp
  go_enter Try.func69, Try.ntmps69
  go_wp2_with (first | (refine wpl_alloc_arr rfl 33 rfl _ zPoly ?_))
  go_loopw [9] (fun i wr => ∃ n : Nat, n ≤ 64 ∧ i = .int .i64 n ∧ Blk wr w.heap.size (u8s 64 fun j => if j < n then (f j + k * g j) % p else f j) 33 ∧ Blk wr (w.heap.size + 1) (u8s 64 g) 33 ∧ Blk wr (w.heap.size + 1 + 1) (u8s 64 fun _ => 0) 33 ∧ Below w.heap.size w wr) (fun i _ => 64 - (intOf i).toNat)
  case atStart => exact ⟨0, by omega, rfl, hB1.cast (u8s_ext fun j _ => by simp), hB2, hB3, hb0⟩
  case round =>
    clear hB1 hB2 hB3 hb0
    obtain ⟨n, hn, rfl, b0, b1, b2, hb⟩ := hrel
    by_cases hlt : n < 64
    · have c0 : wr.cell? ⟨w.heap.size, n, none⟩ = some (.int .u8 (f n)) := by rw [b0.cell, u8s_get _ hlt]; simp
      have c1 : wr.cell? ⟨w.heap.size + 1, n, none⟩ = some (.int .u8 (g n)) := by rw [b1.cell, u8s_get _ hlt]
      have c2 := b0.free n
      have hz := hfH.out n
      have hz0 := hz.1
      have hz1 := hz.2
      have hy := hgH.out n
      have hy0 := hy.1
      have hy1 := hy.2
      have hm0 : -255000 ≤ k * g n := by have := Int.mul_le_mul_of_nonneg_right hk0 hy0; omega
      have hm1 : k * g n ≤ 255000 := by have := Int.mul_le_mul_of_nonneg_right hk1 hy0; omega
      have ht := tmod_range p (f n + k * g n) (by omega)
      have ht0 := ht.1
      have ht1 := ht.2
      have hrr := Lib.hid (tmod_reduce p (f n + k * g n) (by omega))
      have hru := addF_range hpH.out ((f n + k * g n).tmod p + p)
      have hr0 := hru.1
      have hr1 := hru.2
      have hi0 : (0 : Int) ≤ (n : Int) := by omega
      have hi3 : (n : Int) < 64 := by omega
      clear hz hy ht hru
      go_wp2_with fail
      go_region
      go_wp2
      go_roundw
      case rel =>
        refine ⟨n + 1, by omega, by go_num, ?_, (b1.set_other _ _ (by simp)).drew, (b2.set_other _ _ (by simp; omega)).drew, (hb.setCell (by simp) _).drew⟩
        refine ((b0.set n _).cast ?_).drew
        rw [u8s_set]; apply u8s_ext; intro j _
        by_cases e1 : j = n
        · subst e1
          have e : (f j + k * g j).tmod p % p = (f j + k * g j) % p := by simpa using hrr.out
          have hq := addF_range hpH.out (f j + k * g j)
          simp [e, Int.emod_eq_of_lt hq.1 (show (f j + k * g j) % p < 256 by omega)]
        · by_cases e2 : j < n
          · simp [e1, e2, show j < n + 1 by omega]
          · simp [e1, e2, show ¬ j < n + 1 by omega]
      case measure => simp [intOf] <;> omega
    · obtain rfl : n = 64 := by omega
      have b3 := b0.cast (u8s_ext (g := fun j => (f j + k * g j) % p) fun j hj => by rw [if_pos hj])
      clear b0
      go_wp2_with (first | (refine wpl_load_arr rfl 33 _ rfl _ rfl _ _ b3 _ _ uPoly sPoly ?_) | (refine wpl_store_arr rfl 33 _ _ rfl _ rfl _ rfl _ _ b2 sPoly rfl (u8s_oneCell _ _) ?_))
      exact bodyPost_ret (res_c rfl rfl (b2.setRow_same (cs := u8s 64 fun j => (f j + k * g j) % p)) uPoly sPoly) rfl ⟨rfl, below_setRow hb (by omega) _⟩
theorem l01Add_sum (f g : Nat → Int) (p k : Int) (w : World) (hp : Pr p) (hf : By f) (hg : By g) (hk0 : -1000 ≤ k) (hk1 : k ≤ 1000) :
    Calls Try.prog 69 #[.int .i64 p, .agg (u8s 64 f), .agg (u8s 64 g), .int .i64 k] w fun e w' => e = .returned (.agg (u8s 64 (sumF p k f g))) ∧ Below w.heap.size w w' :=
  l01Add_any f g p k w hp hf hg hk0 hk1
end Go.Proofs.Ytnkkkgaojhkniaa

/- Walks: products of arrays, inverses. -/
namespace Go.Proofs.Ytnkkkgaojhkniaa
open Go.RowKit

/-- A polynomial as the program's array holds it: of at most 64 coefficients. -/
structure P64 (p : Int) (xs : List Int) : Prop where
  pr : Pr p
  po : Po p xs
  le : xs.length ≤ 64
theorem P64.rng {p : Int} {xs : List Int} (h : P64 p xs) (i : Nat) : 0 ≤ cf xs i ∧ cf xs i ≤ 6 := cf_lt7 h.pr h.po.md i
theorem P64.by {p : Int} {xs : List Int} (h : P64 p xs) : By (cf xs) := fun i => by have := h.rng i; omega
theorem P64.self {p : Int} {xs : List Int} (h : P64 p xs) : mkp 64 (cf xs) = xs := mkp_of_Tr h.po.tr h.le
theorem l01Deg_list (p : Int) (xs : List Int) (w : World) (h : P64 p xs) :
    Calls Try.prog 37 #[.agg (u8s 64 (cf xs))] w fun e w' => e = .returned (.int .i64 ((xs.length : Int) - 1)) ∧ Below w.heap.size w w' := by
  have := l01Deg_any (cf xs) w fun i _ => h.by i
  rwa [h.self] at this
theorem toldF_nil : toldF [] = fun _ => 0 := by
  have h : toldF [] = cf [] := if_pos (by decide)
  rw [h]; funext i; exact cf_nil i
theorem times_long {p : Int} {xs ys : List Int} (hx : P64 p xs) (hy : P64 p ys) (h1 : 0 < xs.length) (h2 : 0 < ys.length) : (mulp p xs ys).length + 1 = xs.length + ys.length :=
  mulp_length hx.pr hx.po hy.po (fun e => by rw [e] at h1; simp at h1) (fun e => by rw [e] at h2; simp at h2)
theorem times_end0 {p : Int} {xs ys : List Int} (h : xs.length = 0 ∨ ys.length = 0) : Ending.returned (.tuple #[.agg (u8s 64 fun _ => 0), .bool true]) = .returned (.tuple #[.agg (u8s 64 (toldF (mulp p xs ys))), .bool (decide ((mulp p xs ys).length ≤ 64))]) := by
  have hm : mulp p xs ys = [] := by
    rcases h with h | h
    · rw [List.length_eq_zero_iff.1 h, mulp_nil]
    · rw [List.length_eq_zero_iff.1 h, mulp_nil_right]
  rw [hm, toldF_nil]; rfl
theorem times_end1 {p : Int} {xs ys : List Int} (hx : P64 p xs) (hy : P64 p ys) (h1 : 0 < xs.length) (h2 : 0 < ys.length) (h3 : xs.length + ys.length ≤ 65) :
    Ending.returned (.tuple #[.agg (u8s 64 fun n => pmul (cf xs) (cf ys) n % p), .bool true]) = .returned (.tuple #[.agg (u8s 64 (toldF (mulp p xs ys))), .bool (decide ((mulp p xs ys).length ≤ 64))]) := by
  have hL64 : (mulp p xs ys).length ≤ 64 := by have := times_long hx hy h1 h2; omega
  have e1 : u8s 64 (toldF (mulp p xs ys)) = u8s 64 fun n => pmul (cf xs) (cf ys) n % p := by
    unfold toldF; rw [if_pos hL64]; exact u8s_ext fun n _ => mulp_cf _ _ _
  rw [e1, decide_eq_true hL64]
theorem times_end2 {p : Int} {xs ys : List Int} (hx : P64 p xs) (hy : P64 p ys) (h1 : 0 < xs.length) (h2 : 0 < ys.length) (h3 : ¬ xs.length + ys.length ≤ 65) :
    Ending.returned (.tuple #[.agg (u8s 64 fun _ => 0), .bool false]) = .returned (.tuple #[.agg (u8s 64 (toldF (mulp p xs ys))), .bool (decide ((mulp p xs ys).length ≤ 64))]) := by
  have hL64 : ¬ (mulp p xs ys).length ≤ 64 := by have := times_long hx hy h1 h2; omega
  have e1 : toldF (mulp p xs ys) = fun _ => 0 := if_neg hL64
  rw [e1, decide_eq_false hL64]
theorem prt_mod (p : Int) (f g : PS) (k j n : Nat) : prt f g k (j + 1) n % p = if n = k + j then (prt f g k j n % p + f k * g j) % p else prt f g k j n % p := by
  rw [prt_step]; split
  · rw [Int.emod_add_emod]
  · rfl
theorem pmod_range {p : Int} (hp : Pr p) (x : Int) : 0 ≤ x % p ∧ x % p ≤ 6 := addF_range hp x

set_option maxHeartbeats 400000 in
theorem l01Inverse_any (p x : Int) (w : World) (hp : Pr p) (h0 : 0 < x) (h1 : x < p) :
    Calls Try.prog 58 #[.int .i64 p, .int .u8 x] w fun e w' => e = .returned (.int .u8 (invp p x)) ∧ w = w' := by
  have hp1 := hp.pos.1
  have hp2 := hp.pos.2
  have hpz : (p == 0) = false := by rw [beq_eq_false_iff_ne]; omega
  have hinv := invp_spec hp h0 h1
  have honly := Lib.hid (fun k : Nat => @invp_only p x k hp h0 h1)
  have hi0 := hinv.1
  have hi1 := hinv.2.1
  clear hp hinv
  generalize hiv : invp p x = y at *
  clear hiv
  go_enter Try.func58, Try.ntmps58
  go_wp2_with fail
  go_loop [5] (fun i => ∃ k : Nat, 1 ≤ k ∧ (k : Int) ≤ y ∧ i = .int .i64 k) (fun i => (y - intOf i).toNat)
  case atStart => exact ⟨1, by omega, by omega, rfl⟩
  case round =>
    obtain ⟨k, hk1, hk2, rfl⟩ := hrel
    have hkp : (k : Int) < p := by omega
    have hm0 : 0 ≤ (k : Int) * x := Int.mul_nonneg (by omega) (by omega)
    have hm1 : (k : Int) * x ≤ 49 := by
      have h2 := Int.mul_le_mul_of_nonneg_right (show (k : Int) ≤ 7 by omega) (show 0 ≤ x by omega)
      omega
    have ho := honly.out k (by omega) hkp
    by_cases he : (k : Int) = y
    · have h3 := ho.2 he
      have h3b : ((k : Int) * x % p == 1) = true := by rw [h3]; rfl
      have hyH := Lib.hid he
      clear ho h3 he
      go_wp2_with fail
      go_ret
      refine ⟨ret_int ?_, rfl⟩
      rw [← hyH.out]
    · have h3 : ¬ (k : Int) * x % p = 1 := fun h => he (ho.1 h)
      have h3b : ((k : Int) * x % p == 1) = false := by rw [beq_eq_false_iff_ne]; exact h3
      clear ho h3
      go_wp2_with fail
      go_round
      case rel => exact ⟨k + 1, by omega, by omega, by go_num⟩
      case measure => simp [intOf] <;> omega
end Go.Proofs.Ytnkkkgaojhkniaa

/- Walks: division of arrays. -/
namespace Go.Proofs.Ytnkkkgaojhkniaa
open Go.RowKit

theorem divp_fst_cf {p : Int} (xs ys : List Int) (i : Nat) : cf (divp p xs ys).1 i = dquot p (invp p (cf ys (ys.length - 1))) ys (xs.length - (ys.length - 1)) (cf xs) i := by
  show cf (mkp _ _) i = _
  rw [mkp_cf]; split
  · rfl
  · rw [dquot_ge _ _ _ _ _ _ (by omega)]
theorem divp_snd_cf {p : Int} (xs ys : List Int) (h : 0 < ys.length) (i : Nat) : cf (divp p xs ys).2 i = drest p (invp p (cf ys (ys.length - 1))) ys (xs.length - (ys.length - 1)) (cf xs) i := by
  show cf (mkp _ _) i = _
  rw [mkp_cf]; split
  · rfl
  · by_cases h2 : ys.length - 1 ≤ xs.length
    · exact (drest_len h xs.length _ _ (by omega) (cf_Fin0 xs) i (by omega)).symm
    · rw [show xs.length - (ys.length - 1) = 0 by omega]
      exact (cf_ge xs i (by omega)).symm
theorem P64.quot {p : Int} {xs ys : List Int} (hx : P64 p xs) (hy : P64 p ys) (h : ys ≠ []) : P64 p (divp p xs ys).1 :=
  ⟨hx.pr, (divp_Po hx.pr hx.po hy.po h).1, Nat.le_trans (divp_quot_le p xs ys) (by have := hx.le; omega)⟩
theorem P64.rest {p : Int} {xs ys : List Int} (hx : P64 p xs) (hy : P64 p ys) (h : ys ≠ []) : P64 p (divp p xs ys).2 :=
  ⟨hx.pr, (divp_Po hx.pr hx.po hy.po h).2.1, Nat.le_trans (divp_rest_le p xs ys) hx.le⟩

end Go.Proofs.Ytnkkkgaojhkniaa

/- Walks: the polynomials 1 and T, as arrays. -/
namespace Go.Proofs.Ytnkkkgaojhkniaa
open Go.RowKit
section
variable {P : Program} {ops : Array Oper} {rest : List Oper} {o : Oper} {a : Act} {w : World} {Q : Exit → Act → World → Prop}
theorem wpl_build_one (hw : Region.wanted o (yielded ops a.tmps) = true) (t n e : Nat) (x : Operand) (hop : o.op = .build t #[(0, x)]) (c : Int) (hx : a.eval x = .int .u8 c) (hn : 1 ≤ n) (ht : P.underlying t = some (.array n e)) (hs : (P.info? e).map (·.size) = some 1)
    (hz : (P.info? t).bind (·.zero) = some (.agg (u8s n fun _ => 0)))
    (h : wpList P ops Q rest (a.put o.dst (.agg (u8s n fun j => if j = 0 then c else 0))) w) : wpList P ops Q (o :: rest) a w := by
  refine wpl_wanted hw fun K hK => ?_
  obtain ⟨i, hi, hz⟩ := Option.bind_eq_some_iff.1 hz
  obtain ⟨ie, hie, hse⟩ := Option.map_eq_some_iff.1 hs
  have hK := hK _ _ h
  rw [← u8s_set n (fun _ => 0) 0 c] at hK
  have hne : ¬ (u8s n fun _ => (0 : Int)) = #[] := fun h => by have := congrArg Array.size h; rw [u8s_size] at this; simp at this; omega
  unfold Oper.wp execOp
  simp [hop, hx, Instr.build, zeroValue, typeInfo, hi, hz, Sem.run_bind, Value.cells, run_underlying ht w, sizeOf, hie, hse, Instr.fill, Oper.upon, u8s_size, hne]
  exact hK
theorem wpl_build_two (hw : Region.wanted o (yielded ops a.tmps) = true) (t n e : Nat) (x y : Operand) (hop : o.op = .build t #[(0, x), (1, y)]) (c d : Int) (hx : a.eval x = .int .u8 c) (hy : a.eval y = .int .u8 d) (hn : 2 ≤ n) (ht : P.underlying t = some (.array n e)) (hs : (P.info? e).map (·.size) = some 1)
    (hz : (P.info? t).bind (·.zero) = some (.agg (u8s n fun _ => 0)))
    (h : wpList P ops Q rest (a.put o.dst (.agg (u8s n fun j => if j = 1 then d else if j = 0 then c else 0))) w) : wpList P ops Q (o :: rest) a w := by
  refine wpl_wanted hw fun K hK => ?_
  obtain ⟨i, hi, hz⟩ := Option.bind_eq_some_iff.1 hz
  obtain ⟨ie, hie, hse⟩ := Option.map_eq_some_iff.1 hs
  have hK := hK _ _ h
  rw [← u8s_set n (fun j => if j = 0 then c else 0) 1 d, ← u8s_set n (fun _ => 0) 0 c] at hK
  have hne : ¬ (u8s n fun _ => (0 : Int)) = #[] := fun h => by have := congrArg Array.size h; rw [u8s_size] at this; simp at this; omega
  unfold Oper.wp execOp
  simp [hop, hx, hy, Instr.build, zeroValue, typeInfo, hi, hz, Sem.run_bind, Value.cells, run_underlying ht w, sizeOf, hie, hse, Instr.fill, Oper.upon, u8s_size, hne, show ¬ n < 2 by omega]
  exact hK
end
theorem eval_const {a : Act} {v : Value} : a.eval (.const v) = v := rfl
/-- How long the polynomial in a block is. -/
def polyLen (w : World) (g : Nat) : Nat := match w.heap[g]? with
  | some (.cells cs _ _) => (mkp 64 fun i => match cs[i]? with | some (.int _ z) => z | _ => 0).length
  | _ => 0
theorem polyLen_blk {w : World} {g T : Nat} {xs : List Int} (h : Blk w g (u8s 64 (cf xs)) T) (ht : Tr xs) (hl : xs.length ≤ 64) : polyLen w g = xs.length := by
  unfold polyLen
  unfold Blk at h
  rw [h]
  have : (mkp 64 fun i => match (u8s 64 (cf xs))[i]? with | some (.int _ z) => z | _ => 0) = xs := mkp_eq ht fun i => by
    by_cases hi : i < 64
    · rw [if_pos hi, u8s_get _ hi]
    · rw [if_neg hi, cf_ge xs i (by omega)]
  show (mkp 64 fun i => match (u8s 64 (cf xs))[i]? with | some (.int _ z) => z | _ => 0).length = _
  rw [this]
theorem sumF_list (p t : Int) (xs ys : List Int) : sumF p t (cf xs) (cf ys) = cf (addp p xs ys t) := by funext i; exact (addp_cf xs ys t i).symm
theorem l01Add_list (xs ys : List Int) (p k : Int) (w : World) (hx : P64 p xs) (hy : P64 p ys) (hk0 : -1000 ≤ k) (hk1 : k ≤ 1000) :
    Calls Try.prog 69 #[.int .i64 p, .agg (u8s 64 (cf xs)), .agg (u8s 64 (cf ys)), .int .i64 k] w fun e w' => e = .returned (.agg (u8s 64 (cf (addp p xs ys k)))) ∧ Below w.heap.size w w' := by
  rw [← sumF_list]; exact l01Add_sum _ _ p k w hx.pr hx.by hy.by hk0 hk1
theorem cf_void : cf [] = fun _ => 0 := by funext i; exact cf_nil i
theorem P64.nil {p : Int} (hp : Pr p) : P64 p [] := ⟨hp, Po_nil (by have := hp.pos; omega), by simp⟩
theorem P64.addp {p : Int} {xs ys : List Int} (hx : P64 p xs) (hy : P64 p ys) (t : Int) : P64 p (addp p xs ys t) :=
  ⟨hx.pr, addp_Po (by have := hx.pr.pos; omega) _ _ _, Nat.le_trans (addp_length p xs ys t) (Nat.max_le.2 ⟨hx.le, hy.le⟩)⟩
theorem l01Add_zero (ys : List Int) (p k : Int) (w : World) (hy : P64 p ys) (hk0 : -1000 ≤ k) (hk1 : k ≤ 1000) :
    Calls Try.prog 69 #[.int .i64 p, .agg (u8s 64 fun _ => 0), .agg (u8s 64 (cf ys)), .int .i64 k] w fun e w' => e = .returned (.agg (u8s 64 (cf (addp p [] ys k)))) ∧ Below w.heap.size w w' := by
  have := l01Add_list [] ys p k w (P64.nil hy.pr) hy hk0 hk1
  rwa [cf_void] at this
end Go.Proofs.Ytnkkkgaojhkniaa

/- Walks: lists of factors in memory; the polynomial with a number; powers. -/
import Derived.Test.YtojkngdabejjdaaBsM
import Derived.Test.YtojkngdabejjdaaGd
import Derived.Test.YtojkngdabejjdaaE6
import Derived.Test.YtojkngdabejjdaaOrA
set_option linter.unusedVariables false
set_option linter.unusedSimpArgs false
namespace Go.Proofs.Ytojkngdabejjdaa
open Go.RowKit
/-- The cells of a factor. -/
def fcc (x : List Int × Nat) : List Value := (u8s 64 (cf x.1)).toList ++ [.int .i64 (x.2 : Int)]
theorem fcc_len (x : List Int × Nat) : (fcc x).length = 65 := by unfold fcc; rw [List.length_append, Array.length_toList, u8s_size]; rfl
theorem fcc_one (x : List Int × Nat) : ∀ u ∈ fcc x, u.oneCell' = true := fun u hu => by
  rcases List.mem_append.1 hu with h | h
  · exact arr_ones 64 x.1 u h
  · rw [List.mem_singleton] at h; subst h; rfl
theorem fcc_poly (x : List Int × Nat) {j : Nat} (hj : j < 64) : (fcc x)[j]? = some (.int .u8 (cf x.1 j)) := by
  unfold fcc
  rw [List.getElem?_append_left (by rw [Array.length_toList, u8s_size]; exact hj), Array.getElem?_toList, u8s_get _ hj]
theorem fcc_pow (x : List Int × Nat) : (fcc x)[64]? = some (.int .i64 (x.2 : Int)) := by
  unfold fcc
  rw [List.getElem?_append_right (by rw [Array.length_toList, u8s_size]; omega), Array.length_toList, u8s_size]; rfl
theorem flat_get : ∀ (fs : Fs) (i : Nat) (x : List Int × Nat), fs[i]? = some x → ∀ j, j < 65 → (fs.flatMap fcc)[i * 65 + j]? = (fcc x)[j]?
  | [], i, x, h, j, hj => by simp at h
  | y :: l, 0, x, h, j, hj => by
    have e : y = x := by simpa using h
    subst e
    rw [List.flatMap_cons, Nat.zero_mul, Nat.zero_add, List.getElem?_append_left (by rw [fcc_len]; exact hj)]
  | y :: l, i + 1, x, h, j, hj => by
    rw [List.flatMap_cons, List.getElem?_append_right (by rw [fcc_len]; omega), fcc_len, show (i + 1) * 65 + j - 65 = i * 65 + j by omega]
    exact flat_get l i x (by simpa using h) j hj
/-- A list of factors in a block of its own. -/
def FcL (T : Nat) (w : World) (B : Nat) (v : Value) (fs : Fs) : Prop := w.ownsRow B T 65 v fs.length (fs.flatMap fcc)
section
variable {T : Nat} {w w' : World} {B : Nat} {v : Value} {fs : Fs}
theorem FcL.below (h : FcL T w B v fs) (hb : Below w.heap.size w w') : FcL T w' B v fs := ownsK_below h hb
theorem FcL.kept {row : Option Nat} (h : FcL T w B v fs) (hg : w.grownBy w' row) (hne : v.ownBlock = none ∨ v.ownBlock ≠ row) : FcL T w' B v fs := World.ownsRow.kept h hg hne
theorem FcL.sl (h : FcL T w B v fs) : ∃ oa cap, v = .slice oa fs.length cap := by
  rcases h.2 with ⟨rfl, e⟩ | ⟨g, cap, cur, rfl, _⟩
  · exact ⟨none, 0, by rw [e]⟩
  · exact ⟨_, _, rfl⟩
theorem FcL.slc {oa : Option Addr} {c n : Nat} (h : FcL T w B (.slice oa n c) fs) (hn : 0 < fs.length) : ∃ g, oa = some ⟨g, 0, none⟩ ∧ B ≤ g := by
  rcases h.2 with ⟨_, e⟩ | ⟨g, cap, cur, e, hB, _⟩
  · omega
  · injection e with e1 _ _
    exact ⟨g, e1, hB⟩
theorem FcL.cell {g n cap : Nat} (h : FcL T w B (.slice (some ⟨g, 0, none⟩) n cap) fs) {i : Nat} {x : List Int × Nat} (hi : fs[i]? = some x) : (∀ j, j < 64 → w.cell? ⟨g, i * 65 + j, none⟩ = some (.int .u8 (cf x.1 j))) ∧ w.cell? ⟨g, i * 65 + 64, none⟩ = some (.int .i64 (x.2 : Int)) := by
  have hlt : i < fs.length := (List.getElem?_eq_some_iff.1 hi).1
  have hn : n = fs.length := by
    rcases h.2 with ⟨e, _⟩ | ⟨_, _, _, e, _⟩
    · simp at e
    · simp only [Value.slice.injEq] at e; exact e.2.1
  subst hn
  have key : ∀ j, j < 65 → w.cell? ⟨g, i * 65 + j, none⟩ = (fcc x)[j]? := fun j hj => by
    have h0 : i * 65 + j < fs.length * 65 := by
      have : (i + 1) * 65 ≤ fs.length * 65 := Nat.mul_le_mul_right 65 hlt
      omega
    rw [World.ownsRow.cellAt h (i * 65 + j) h0]
    exact flat_get fs i x hi j hj
  exact ⟨fun j hj => by rw [key j (by omega), fcc_poly x hj], by rw [key 64 (by omega), fcc_pow x]⟩
theorem FcL.void (w : World) (T : Nat) : FcL T (w.alloc (.cells #[] T)) w.heap.size (.slice (some ⟨w.heap.size, 0, none⟩) 0 0) [] := by
  have := World.ownsRow_made w (base := w.heap.size) (e := T) (size := 65) #[] 0 (Nat.le_refl _) (by unfold maxLen; omega) (by simp)
  simpa [FcL] using this
theorem FcL.mono {B' : Nat} (h : FcL T w B v fs) (hb : B' ≤ B) : FcL T w B' v fs := by
  refine ⟨h.1, ?_⟩
  rcases h.2 with h1 | ⟨g, cap, cur, h1, h2, h3⟩
  · exact .inl h1
  · exact .inr ⟨g, cap, cur, h1, Nat.le_trans hb h2, h3⟩
theorem FcL.snoc {x : List Int × Nat} (h : w.ownsRow B T 65 v (fs.length + 1) (fs.flatMap fcc ++ fcc x)) : FcL T w B v (fs ++ [x]) := by
  unfold FcL
  rw [List.length_append, List.flatMap_append, show [x].flatMap fcc = fcc x by simp]
  exact h
theorem FcL.own {g : Nat} (h : FcL T w B v fs) (hg : v.ownBlock = some g) : B ≤ g ∧ g < w.heap.size := by
  rcases h.2 with ⟨rfl, _⟩ | ⟨g', cap, cur, rfl, hB, hc, _⟩
  · simp [Value.ownBlock] at hg
  · simp [Value.ownBlock] at hg
    subst hg
    exact ⟨hB, by
      by_cases e : g' < w.heap.size
      · exact e
      · rw [Array.getElem?_eq_none (by omega)] at hc; simp at hc⟩
end
theorem uFsF : Try.prog.underlying 54 = some (.slice 58) := by kernel_rfl
theorem sFsF : (Try.prog.info? 58).map (·.size) = some 65 := by kernel_rfl
theorem zFsF : ((Try.prog.info? 58).bind (·.zero)).isSome = true := by kernel_rfl
def zeroFc : Array Value := arr 65 fun i => if i < 64 then .int .u8 0 else .int .i64 0
theorem zeroFc_size : zeroFc.size = 65 := arr_size _ _
theorem iFsF : (Try.prog.info? 58).map (fun i => (i.zero, i.size, i.bytes)) = some (some (.agg zeroFc), 65, 72) := by kernel_rfl
theorem zzFsF : (Try.prog.info? 58).bind (·.zero) = some (.agg zeroFc) := by kernel_rfl
theorem layFsF : layout Try.prog 58 = some (.agg zeroFc, [(0, 64), (64, 1)]) := by kernel_rfl
theorem fcc_arr (x : List Int × Nat) : (Value.cells (.agg (u8s 64 (cf x.1)))) ++ (Value.cells (.int .i64 (x.2 : Int))) = (fcc x).toArray := by
  unfold fcc
  apply Array.ext'
  simp [Value.cells]
section
variable {P : Program} {ops : Array Oper} {rest : List Oper} {o : Oper} {a : Act} {w : World} {Q : Exit → Act → World → Prop}
theorem fill_any (m : Nat) (cs Z : Array Value) (hc : cs.size = m) (hZ : Z.size = m) : Instr.fill (fun i => some (i * m, m)) Z [(0, Value.agg cs)] = some cs := by
  unfold Instr.fill
  simp only [Value.cells, hc, hZ]
  rw [if_neg (by simp)]
  unfold Instr.fill
  congr 1
  apply Array.ext_getElem?
  intro i
  rw [fold_setA]
  by_cases hi : i < m
  · rw [if_pos (by omega)]; simp
  · rw [if_neg (by omega), Array.getElem?_eq_none (by omega), Array.getElem?_eq_none (by omega)]
/-- A slice of one struct. -/
theorem wpl_buildSlice_str (hw : Region.wanted o (yielded ops a.tmps) = true) (t e m : Nat) (x : Operand) (hop : o.op = .buildSlice t 1 #[(0, x)])
    (ht : P.underlying t = some (.slice e)) (hs : (P.info? e).map (·.size) = some m) (z : Array Value) (hz : (P.info? e).bind (·.zero) = some (.agg z)) (hzs : z.size = m) (hm : 0 < m) (hm2 : m ≤ 1000)
    (cs : Array Value) (hcs : cs.size = m) (hx : a.eval x = .agg cs)
    (h : wpList P ops Q rest (a.put o.dst (.slice (some ⟨w.heap.size, 0, none⟩) 1 1)) (w.alloc (.cells cs e))) : wpList P ops Q (o :: rest) a w := by
  refine wpl_wanted hw fun K hK => ?_
  have hK := hK _ _ h
  obtain ⟨inf, hinf, hsz⟩ := Option.map_eq_some_iff.1 hs
  obtain ⟨inf', hinf', hz⟩ := Option.bind_eq_some_iff.1 hz
  obtain rfl : inf = inf' := by rw [hinf] at hinf'; exact Option.some.inj hinf'
  have hfill := fill_any m cs ((Array.range (1 * m)).map (fun x => z[x % z.size]!)) hcs (by simp)
  unfold Oper.wp execOp
  simp only [hop, Instr.buildSlice, Sem.run_bind, run_underlying ht w, Result.andThen_ok, sizeOf, typeInfo, run_program, hinf, Sem.run_pure, hsz, zeroValue, List.map_toArray, List.map_cons, List.map_nil, hx, Value.cells]
  rw [if_neg (by simp only [Nat.reducePow]; omega), if_neg (by omega)]
  simp only [Sem.run_bind, run_program, Result.andThen_ok, hinf, Sem.run_pure, hz, Value.cells, hfill]
  simp [newRow, newObj, Oper.upon]
  exact hK
end
theorem fc_news (w : World) (T : Nat) (x : List Int × Nat) : ∀ j u, (fcc x)[j]? = some u → (w.alloc (.cells (fcc x).toArray T)).cell? ⟨w.heap.size, j, none⟩ = some u := fun j u hj => by
  rw [(Blk.new w (fcc x).toArray T).cell]; simpa using hj
theorem pow_ge2 {P j : Nat} (hP : 2 ≤ P) (hj : 20 ≤ j) : 1048576 ≤ P ^ j := by
  have h1 : 2 ^ 20 ≤ P ^ 20 := Nat.pow_le_pow_left hP 20
  have h2 : P ^ 20 ≤ P ^ j := Nat.pow_le_pow_right (by omega) hj
  have h3 : 2 ^ 20 = 1048576 := by decide
  omega
set_option maxRecDepth 20000 in
set_option maxHeartbeats 2000000 in
theorem l01Of_any (p : Int) (P k : Nat) (w : World) (hp : Pr p) (hP : p = P) (hk : k ≤ 1000000) :
    Calls Try.prog 52 #[.int .i64 p, .int .i64 k] w fun e w' => e = .returned (.agg (u8s 64 (cf (npl P k)))) ∧ Below w.heap.size w w' := by
  have hp2 := hp.pos
  subst hP
  have hsm := Lib.hid (fun j (h : 0 < k / P ^ j) => show j < 20 by
    by_cases e : j < 20
    · exact e
    · rw [Nat.div_eq_of_lt (by have := pow_ge2 (P := P) (by omega) (by omega : 20 ≤ j); omega)] at h; omega)
  have hdone := Lib.hid (fun j (h : k / P ^ j = 0) => show u8s 64 (fun e => if e < j then ((dig P k e : Nat) : Int) else 0) = u8s 64 (cf (npl P k)) from u8s_ext fun e he => by
    rw [npl_cf, if_pos he]
    by_cases h1 : e < j
    · rw [if_pos h1]
    · rw [if_neg h1]
      have h2 : P ^ j ≤ P ^ e := Nat.pow_le_pow_right (by omega) (by omega)
      have hpos : 0 < P ^ j := Nat.pow_pos (by omega)
      have h3 : k < P ^ j := by
        rcases Nat.div_eq_zero_iff.1 h with h4 | h4 <;> omega
      unfold dig
      rw [Nat.div_eq_of_lt (by omega), Nat.zero_mod]; rfl)
  obtain ⟨hb, hZ⟩ := boxes1 w (u8s 64 fun _ => 0) 25
  go_enter Try.func52, Try.ntmps52
  go_wp2_with ((with_reducible refine wpl_guard ?_); first | (refine wpl_alloc_arr rfl 25 rfl _ zPoly ?_) | (refine wpl_build_zero rfl 25 64 5 rfl _ uPoly sByte zPoly ?_) | (refine wpl_store_new rfl 25 _ _ rfl _ rfl rfl _ rfl sPoly (by simp only [u8s_size]) (u8s_oneCell _ _) ?_))
  have hN := Blk.newAt (w := w.alloc (.cells (u8s 64 fun _ => 0) 25)) (n := w.heap.size + 1) (by simp) (u8s 64 fun _ => 0) 25
  replace hZ := hZ.alloc (.cells (u8s 64 fun _ => 0) 25)
  replace hb := hb.alloc (by simp) (.cells (u8s 64 fun _ => 0) 25)
  go_loopw [1, 6] (fun nv iv wr => ∃ j l : Nat, j ≤ 20 ∧ l ≤ 1000000 ∧ iv = .int .i64 (j : Int) ∧ nv = .int .i64 (l : Int) ∧ Hid (l = k / P ^ j) ∧ Blk wr w.heap.size (u8s 64 fun _ => 0) 25 ∧ Blk wr (w.heap.size + 1) (u8s 64 fun e => if e < j then ((dig P k e : Nat) : Int) else 0) 25 ∧ Below w.heap.size w wr) (fun nv _ _ => (intOf nv).toNat)
  case atStart => exact ⟨0, k, by omega, hk, rfl, rfl, Lib.hid (by rw [Nat.pow_zero, Nat.div_one]), hZ, hN.cast (u8s_ext fun e _ => by simp), hb⟩
  case round =>
    clear hZ hN hb
    rename World => wq
    obtain ⟨j, l, hj, hl, rfl, rfl, hlk, hZ, hN, hb⟩ := hrel
    by_cases hl0 : 0 < l
    · have hj20 := hsm.out j (by rw [← hlk.out]; exact hl0)
      have hl0I : 0 < (l : Int) := by omega
      have hj64 : (j : Int) < 64 := by omega
      have hme : (l : Int) % (P : Int) = ((l % P : Nat) : Int) := (Int.natCast_emod l P).symm
      have hqe : (l : Int) / (P : Int) = ((l / P : Nat) : Int) := (Int.natCast_ediv l P).symm
      have hml : l % P < P := Nat.mod_lt _ (by omega)
      have hql : l / P < l := Nat.div_lt_self hl0 (by omega)
      have hm0 : 0 ≤ (l : Int) % (P : Int) := by rw [hme]; exact Int.natCast_nonneg _
      have hm1 : (l : Int) % (P : Int) ≤ 6 := by rw [hme]; have := Int.ofNat_lt.2 hml; omega
      have hq0 : 0 ≤ (l : Int) / (P : Int) := by rw [hqe]; exact Int.natCast_nonneg _
      have hq1 : (l : Int) / (P : Int) ≤ 1000000 := by rw [hqe]; exact Int.ofNat_le.2 (Nat.le_trans (Nat.le_of_lt hql) hl)
      have hmH := Lib.hid hme
      have hqH := Lib.hid hqe
      have hqlH := Lib.hid hql
      have c1 : wq.cell? ⟨w.heap.size + 1, j, none⟩ = some (.int .u8 0) := by rw [hN.cell, u8s_get _ (by omega), if_neg (by omega)]
      have c2 := hN.free j
      clear hme hqe hml hql
      go_wp2_with fail
      go_roundw
      case rel =>
        refine ⟨j + 1, l / P, by omega, by have := hqlH.out; omega, by go_num, by rw [hqH.out], Lib.hid (by rw [hlk.out, Nat.div_div_eq_div_mul, Nat.pow_succ]), hZ.set_other _ _ (by simp only [ne_eq]; omega), ?_, hb.setCell (by simp only []; omega) _⟩
        refine (hN.set j _).cast ?_
        rw [u8s_set]; refine u8s_ext fun e _ => ?_
        by_cases e1 : e = j
        · rw [if_pos e1, if_pos (by omega), e1, hmH.out, hlk.out]; rfl
        · rw [if_neg e1]
          by_cases e2 : e < j
          · rw [if_pos e2, if_pos (by omega)]
          · rw [if_neg e2, if_neg (by omega)]
      case measure => have := hqlH.out; rw [hqH.out]; simp [intOf] <;> omega
    · obtain rfl : l = 0 := by omega
      have hfin := hN.cast (hdone.out j hlk.out.symm)
      simp only [Int.natCast_zero]
      clear hN
      go_wp2_with ((with_reducible refine wpl_guard ?_); first | (refine wpl_load_arr rfl 25 _ rfl _ rfl _ _ hfin _ _ uPoly sPoly ?_) | (refine wpl_store_arr rfl 25 _ _ rfl _ rfl _ rfl _ _ hZ sPoly (by simp only [u8s_size]) (u8s_oneCell _ _) ?_))
      exact bodyPost_ret (res_c rfl rfl (hZ.setRow_same (cs := u8s 64 (cf (npl P k)))) uPoly sPoly) rfl ⟨rfl, below_setRow hb (by omega) _⟩
set_option maxHeartbeats 1000000 in
theorem l02Power_any (p : Int) (n : Nat) (w : World) (hp : 2 ≤ p) (hm : p ^ n ≤ 1000000000000) (hn : n ≤ 1000) :
    Calls Try.prog 33 #[.int .i64 p, .int .i64 n] w fun e w' => e = .returned (.int .i64 (p ^ n)) ∧ w = w' := by
  have hall := Lib.hid (fun k (hk : k < n) => (⟨ipow_pos hp k, Int.le_trans (ipow_mono hp (Nat.le_of_lt hk)) hm, by rw [← Int.pow_succ]; exact Int.le_trans (ipow_mono hp (show k + 1 ≤ n by omega)) hm⟩ : 1 ≤ p ^ k ∧ p ^ k ≤ 1000000000000 ∧ p ^ k * p ≤ 1000000000000))
  clear hm
  go_enter Try.func33, Try.ntmps33
  go_wp2_with fail
  go_loop [1, 5] (fun i o => ∃ (k : Nat) (y : Int), k ≤ n ∧ i = .int .i64 ((n : Int) - k) ∧ o = .int .i64 y ∧ y = p ^ k) (fun i _ => (intOf i).toNat)
  case atStart => exact ⟨0, 1, by omega, by simp, rfl, by simp⟩
  case round =>
    obtain ⟨k, y, hk, hi, rfl, hy⟩ := hrel
    have hyH := Lib.hid hy
    by_cases hlt : k < n
    · have h1 := hall.out k hlt
      rw [← hy] at h1
      have h2 := h1.1
      have h3 := h1.2.1
      have h4 := h1.2.2
      have h6 : 0 ≤ y * p := Int.mul_nonneg (by omega) (by omega)
      obtain ⟨m, hm⟩ : ∃ m : Nat, (n : Int) - k = m := ⟨n - k, by omega⟩
      rw [hm] at hi
      have hm0 : 0 < (m : Int) := by omega
      have hm00 : (m : Int) ≤ 1000 := by omega
      have hmH2 := Lib.hid hm
      subst hi
      clear h1 hy hm
      go_wp2_with fail
      go_round
      case rel => exact ⟨k + 1, _, by omega, by have := hmH2.out; first | (congr 1; omega) | (go_num; omega), rfl, by rw [Int.pow_succ, ← hyH.out]⟩
      case measure => simp [intOf] <;> omega
    · have hkk : k = n := by omega
      have hz : (n : Int) - k = 0 := by omega
      rw [hz] at hi
      subst hi
      clear hy
      go_wp2_with fail
      go_ret
      exact ⟨ret_int (by rw [hyH.out, hkk]), rfl⟩
end Go.Proofs.Ytojkngdabejjdaa

/- Walks: rows of a low degree left out of a list. -/
import Derived.Test.YtnkkkgaojhkniabSp9
set_option linter.unusedVariables false
set_option linter.unusedSimpArgs false
namespace Go.Proofs.Ytnkkkgaojhkniab
open Go.RowKit
section
variable {P : Program} {ops : Array Oper} {rest : List Oper} {o : Oper} {a : Act} {w : World} {Q : Exit → Act → World → Prop}
theorem wpl_store_arrS (hw : Region.wanted o (yielded ops a.tmps) = true) (t : TypeId) (x y : Operand) (hop : o.op = .store t x y) (g k : Nat) (hx : a.eval x = .pointer (some ⟨g, k, none⟩)) (v : Value) (hy : a.eval y = v) (n : Nat) (R : Nat → Value) (T : TypeId) (hb : Blk w g (arr n R) T)
    (hk : k < n) (hs : (P.info? t).map (·.size) = some 1) (h1 : v.oneCell' = true) (h : wpList P ops Q rest (a.put o.dst undef) (w.setRow g (arr n (fun j => if j = k then v else R j)))) : wpList P ops Q (o :: rest) a w :=
  wpl_wanted hw fun _ hK => wp_store_arrN t x y hop g k hx v hy n R T hb hk hs h1 (hK _ _ h)
theorem slice_run_cells (n i m : Nat) (R : Nat → Value) (hm : i + m ≤ n) : ((arr n R).toList.take (i + 0) ++ List.replicate m (Value.slice none 0 0) ++ (arr n R).toList.drop (i + 0 + (List.replicate m (Value.slice none 0 0)).length)).toArray = arr n fun q => if i ≤ q ∧ q < i + m then .slice none 0 0 else R q := by
  apply Array.ext_getElem?
  intro j
  have hl : (arr n R).toList.length = n := by rw [Array.length_toList, arr_size]
  rw [List.getElem?_toArray, arr_get, Nat.add_zero, List.length_replicate]
  by_cases h1 : j < i
  · rw [List.append_assoc, List.getElem?_append_left (by rw [List.length_take]; omega), List.getElem?_take, if_pos h1, Array.getElem?_toList, arr_get, if_pos (by omega), if_pos (by omega), if_neg (by omega)]
  · by_cases h2 : j < i + m
    · rw [List.getElem?_append_left (by rw [List.length_append, List.length_take, List.length_replicate]; omega), List.getElem?_append_right (by rw [List.length_take]; omega), List.length_take, hl, Nat.min_eq_left (by omega), List.getElem?_replicate, if_pos (by omega), if_pos (by omega), if_pos (by omega)]
    · rw [List.getElem?_append_right (by rw [List.length_append, List.length_take, List.length_replicate]; omega), List.length_append, List.length_take, List.length_replicate, hl, Nat.min_eq_left (by omega), List.getElem?_drop, show i + m + (j - (i + m)) = j by omega, Array.getElem?_toList, arr_get]
      by_cases h3 : j < n
      · rw [if_pos h3, if_pos h3, if_neg (by omega)]
      · rw [if_neg h3, if_neg h3]
theorem wpl_clear_rows (hw : Region.wanted o (yielded ops a.tmps) = true) (t e : TypeId) (x : Operand) (hop : o.op = .call { callee := .builtin .clear, args := #[x], argTypes := #[t] }) (ht : P.underlying t = some (.slice e))
    (hz : (P.info? e).bind (·.zero) = some (.slice none 0 0)) (g i m c n : Nat) (hx : a.eval x = .slice (some ⟨g, i, none⟩) m c) (R : Nat → Value) (T : TypeId) (hb : Blk w g (arr n R) T) (hm : i + m ≤ n) (hm0 : 0 < m)
    (h : ∀ v, wpList P ops Q rest (a.put o.dst v) (w.setRow g (arr n fun q => if i ≤ q ∧ q < i + m then .slice none 0 0 else R q))) : wpList P ops Q (o :: rest) a w := by
  refine wpl_wanted hw fun K hK => ?_
  obtain ⟨inf, hinf, hz⟩ := Option.bind_eq_some_iff.1 hz
  have hzc : (Builtin.zeroCells (Value.slice none 0 0).cells m).toList = List.replicate m (Value.slice none 0 0) := by
    unfold Builtin.zeroCells
    apply List.ext_getElem?
    intro j
    simp only [Array.toList_map, Array.toList_range, List.getElem?_map, List.getElem?_replicate, Value.cells]
    by_cases hj : j < m
    · rw [List.getElem?_range (by simpa using hj), if_pos hj]
      simp [Nat.mod_one]
    · rw [List.getElem?_eq_none (by simp; omega), if_neg hj]; rfl
  have hr := run_storeCells_at (P := P) g i T (List.replicate m (Value.slice none 0 0)) 0 (arr n R) w hb (by rw [List.length_replicate, arr_size]; omega) (fun v hv => by rw [List.eq_of_mem_replicate hv]; rfl)
  rw [slice_run_cells n i m R hm] at hr
  obtain ⟨k, rfl⟩ : ∃ k, m = k + 1 := ⟨m - 1, by omega⟩
  unfold Oper.wp execOp
  simp [hop, resolve, invoke, builtin, Builtin.clear_, Sem.run_bind, hx, run_underlying ht w, zeroValue, typeInfo, hinf, hz, hzc, hr, Oper.upon]
  exact hK _ _ (h _)
end
theorem cut_of (Z : Nat → Prop) [DecidablePred Z] : ∀ N, (∀ i j, i ≤ j → j < N → Z j → Z i) → ∃ k, k ≤ N ∧ ∀ i, i < N → (Z i ↔ i < k)
  | 0, _ => ⟨0, by omega, fun i h => absurd h (by omega)⟩
  | N + 1, h => by
    by_cases hz : Z N
    · exact ⟨N + 1, by omega, fun i hi => ⟨fun _ => hi, fun _ => h i N (by omega) (by omega) hz⟩⟩
    · obtain ⟨k, hk, hZ⟩ := cut_of Z N fun i j hi hj => h i j hi (by omega)
      refine ⟨k, by omega, fun i hi => ?_⟩
      by_cases e : i = N
      · subst e; exact ⟨fun q => absurd q hz, fun q => by omega⟩
      · exact hZ i (by omega)
theorem Fac.mono {p n : Int} {F : Nat → Int} {N : Nat} {M : MxL} (h : Fac p n F N M) {i j : Nat} (hij : i ≤ j) (hj : j < N) : (monic p (M i i)).length ≤ (monic p (M j j)).length := by
  have hp := h.pr
  obtain ⟨_, e1, _⟩ := monic_ne hp (h.sm.po i i (by omega) (by omega)) (h.sm.piv i (by omega))
  obtain ⟨_, e2, _⟩ := monic_ne hp (h.sm.po j j hj hj) (h.sm.piv j hj)
  have hd := h.sm.div i (by omega) j j ⟨hij, hj⟩ ⟨hij, hj⟩
  obtain ⟨q, hq, e⟩ := hd.list hp (h.sm.po j j hj hj)
  obtain ⟨l1, _, l3⟩ := mulp_len_pos hp hq (h.sm.po i i (by omega) (by omega)) (e ▸ h.sm.piv j hj)
  have := List.length_pos_iff.2 l1
  rw [← e] at l3
  omega
/-- The first place whose factor has a degree. -/
theorem Fac.cut {p n : Int} {F : Nat → Int} {N : Nat} {M : MxL} (h : Fac p n F N M) : ∃ k, k ≤ N ∧ ∀ i, i < N → ((monic p (M i i)).length ≤ 1 ↔ i < k) :=
  cut_of (fun i => (monic p (M i i)).length ≤ 1) N fun i j hij hj h1 => by have := h.mono hij hj; omega
set_option maxHeartbeats 400000 in
theorem low1_any (v : Value) (xs : List Int) (w : World) (h : IsRow w v xs) (z : Bool) (hz : decide (xs.length ≤ 1) = z) :
    Calls Try.prog 74 #[v] w fun e w' => e = .returned (.bool z) ∧ Below w.heap.size w w' := by
  have H1 := Lib.hid (degree_any v xs w h)
  have hz2 : decide ((xs.length : Int) - 1 < 1) = z := by rw [← hz]; apply decide_eq_decide.2; omega
  obtain ⟨a1, m1, c1, rfl⟩ := h.isSlice
  clear h hz
  obtain ⟨L, hL⟩ : ∃ L, (xs.length : Int) = L := ⟨_, rfl⟩
  rw [hL] at H1 hz2
  clear hL
  go_enter Try.func74, Try.ntmps74
  go_wp2_with fail
  refine H1.out.mono ?_
  rintro e u1 h1
  obtain ⟨rfl, hb⟩ := h1
  go_wp2_with fail
  go_ret
  subst hb
  exact ⟨by rw [← hz2]; rfl, Below.refl _ _⟩
def lowF : Value := .func (.func 74) #[] #[]
set_option maxRecDepth 20000 in
set_option maxHeartbeats 1000000 in
theorem indexLow (v : Value) (n k : Nat) (X : Nat → List Int) (w : World) (hn0 : 0 < n) (hn : n ≤ 6) (h : RwL w v n X) (hk : ∀ i, i < n → ((X i).length ≤ 1 ↔ i < k)) :
    Calls Try.prog 89 #[v, lowF] w fun e w' => e = .returned (.int .i64 (if k = 0 then -1 else 0)) ∧ Below w.heap.size w w' := by
  obtain ⟨b, c, R, rfl, q1, r1⟩ := h
  have q1H := Lib.hid q1
  have r1H := Lib.hid r1
  have hkH := Lib.hid hk
  have hnI : (n : Int) ≤ 6 := by omega
  clear q1 r1 hk
  unfold lowF
  go_enter Try.func89, Try.ntmps89
  go_wp2_with fail
  go_loopw [8] (fun vi wr => ∃ j : Nat, j ≤ n ∧ vi = .int .i64 (j : Int) ∧ (k = 0 ∨ j = 0) ∧ Below w.heap.size w wr) (fun vi _ => n - (intOf vi).toNat)
  case atStart => exact ⟨0, by omega, rfl, .inr rfl, Below.refl _ _⟩
  case round =>
    obtain ⟨j, hj, rfl, hkj, hb⟩ := hrel
    rename World => wr
    have hkjH := Lib.hid hkj
    clear hkj
    by_cases hlt : j < n
    · have hltI : (j : Int) < (n : Int) := by omega
      have c0 : wr.cell? ⟨b, j, none⟩ = some (R j) := cell_below (q1H.out j hlt) hb
      have x1 := (r1H.out j hlt).below hb
      by_cases hk0 : k = 0
      · have hd : decide ((X j).length ≤ 1) = false := decide_eq_false fun h => by have := (hkH.out j hlt).1 h; omega
        have H1 := Lib.hid (low1_any (R j) (X j) wr x1 false hd)
        obtain ⟨a1, m1, d1, e1⟩ := x1.isSlice
        rw [e1] at c0 H1
        clear x1 e1 hd
        go_wp2_with fail
        refine H1.out.mono ?_
        rintro e u1 ⟨rfl, hb1⟩
        replace hb := below_step hb hb1
        clear hb1 H1 c0
        go_wp2_with fail
        go_roundw
        case rel => exact ⟨j + 1, by omega, by go_num, .inl hk0, hb⟩
        case measure => simp [intOf] <;> omega
      · obtain rfl : j = 0 := by have := hkjH.out; omega
        have hd : decide ((X 0).length ≤ 1) = true := decide_eq_true ((hkH.out 0 hlt).2 (by omega))
        have H1 := Lib.hid (low1_any (R 0) (X 0) wr x1 true hd)
        obtain ⟨a1, m1, d1, e1⟩ := x1.isSlice
        rw [e1] at c0 H1
        clear x1 e1 hd
        go_wp2_with fail
        refine H1.out.mono ?_
        rintro e u1 ⟨rfl, hb1⟩
        replace hb := below_step hb hb1
        clear hb1 H1 c0
        go_wp2_with fail
        go_ret
        exact ⟨by first | rfl | (rw [if_neg hk0]; rfl), hb⟩
    · obtain rfl : j = n := by omega
      have hk0 : k = 0 := by have := hkjH.out; omega
      go_wp2_with fail
      go_ret
      exact ⟨by first | rfl | (rw [if_pos hk0]; rfl), hb⟩
/-- The list after the first j places have been seen. -/
def shf (k j : Nat) (R : Nat → Value) : Nat → Value := fun q => if q < j - k then R (k + q) else R q
theorem sRowK2 : (Try.prog.info? 55).map (·.size) = some 1 := by kernel_rfl
theorem zRowK2 : (Try.prog.info? 55).bind (·.zero) = some (.slice none 0 0) := by kernel_rfl
theorem uRowsK2 : Try.prog.underlying 49 = some (.slice 55) := by kernel_rfl
set_option maxRecDepth 20000 in
set_option maxHeartbeats 2000000 in
theorem deleteLow (b c n k B : Nat) (R : Nat → Value) (X : Nat → List Int) (w : World) (hn0 : 0 < n) (hn : n ≤ 6) (hnc : n ≤ c) (hB : B ≤ b) (hB2 : B ≤ w.heap.size) (hBlk : Blk w b (arr c R) 55) (hS : ∀ j, ∃ a m q, R j = .slice a m q) (hR : ∀ i, i < n → IsRow w (R i) (X i)) (hkn : k ≤ n) (hk : ∀ i, i < n → ((X i).length ≤ 1 ↔ i < k)) :
    Calls Try.prog 73 #[.slice (some ⟨b, 0, none⟩) n c, lowF] w fun e w' => ∃ v, e = .returned v ∧ RwL w' v (n - k) (fun i => X (k + i)) ∧ Below B w w' := by
  have hBkH := Lib.hid hBlk
  have hSH := Lib.hid hS
  have hRH := Lib.hid hR
  have hkH := Lib.hid hk
  have hcS : w.heap.size > b := hBlk.lt
  have hrw : RwL w (.slice (some ⟨b, 0, none⟩) n c) n X := ⟨b, c, R, rfl, fun i hi => by rw [hBlk.cell]; exact arr_get_lt R (by omega), hR⟩
  have hidx := Lib.hid (indexLow _ n k X w hn0 hn hrw hk)
  have hnI : (n : Int) ≤ 6 := by omega
  clear hS hR hk hrw hBlk
  unfold lowF at *
  go_enter Try.func73, Try.ntmps73
  go_wp2_with fail
  refine hidx.out.mono ?_
  rintro e u1 ⟨rfl, hn1⟩
  have hBlk := hBkH.out.keep hn1
  have hRu := Lib.hid (fun i (hi : i < n) => (hRH.out i hi).below hn1)
  have hb := hn1.mono hB2
  clear hidx hBkH hRH hn1
  by_cases hk0 : k = 0
  · subst hk0
    rw [if_pos rfl]
    go_wp2_with fail
    go_ret
    exact ⟨_, rfl, ⟨b, c, R, rfl, fun i hi => by rw [hBlk.cell]; exact arr_get_lt R (by omega), fun i hi => by show IsRow u1 (R i) (X (0 + i)); rw [Nat.zero_add]; exact hRu.out i hi⟩, hb⟩
  · rw [if_neg hk0]
    go_wp2_with fail
    go_loopw [5, 6] (fun vi vj wr => ∃ j d : Nat, 1 ≤ j ∧ j ≤ n ∧ Hid (d = j - k) ∧ vj = .int .i64 (j : Int) ∧ vi = .int .i64 (d : Int) ∧ Blk wr b (arr c (shf k j R)) 55 ∧ Hid (∀ i, i < n → IsRow wr (R i) (X i)) ∧ Below B w wr) (fun _ vj _ => n - (intOf vj).toNat)
    case atStart => exact ⟨1, 0, by omega, by omega, Lib.hid (by omega), rfl, rfl, by
      rw [show shf k 1 R = R from funext fun q => if_neg (by omega)]; exact hBlk, hRu, hb⟩
    case round =>
      clear hBlk hRu hb
      obtain ⟨j, d, hj1, hj, hd, rfl, rfl, hBlk, hRu, hb⟩ := hrel
      rename World => wr
      by_cases hlt : j < n
      · have hltI : (j : Int) < (n : Int) := by omega
        have c0 : wr.cell? ⟨b, j, none⟩ = some (R j) := by
          rw [hBlk.cell, arr_get_lt _ (by omega)]
          unfold shf; rw [if_neg (by omega)]
        have x1 := hRu.out j hlt
        by_cases hjk : j < k
        · have hdd : decide ((X j).length ≤ 1) = true := decide_eq_true ((hkH.out j hlt).2 hjk)
          have H1 := Lib.hid (low1_any (R j) (X j) wr x1 true hdd)
          obtain ⟨a1, m1, d1, e1⟩ := x1.isSlice
          rw [e1] at c0 H1
          have hBl2 : Blk wr b (arr c (shf k (j + 1) R)) 55 := by
            rw [show shf k (j + 1) R = shf k j R from funext fun q => by unfold shf; rw [if_neg (by omega), if_neg (by omega)]]; exact hBlk
          clear x1 e1 hdd hBlk
          unfold lowF at *
          go_wp2_with fail
          refine H1.out.mono ?_
          rintro e u2 ⟨rfl, hn2⟩
          replace hBl2 := hBl2.keep hn2
          replace hRu := Lib.hid (fun i (hi : i < n) => (hRu.out i hi).below hn2)
          replace hb := hb.trans (hn2.mono (Nat.le_trans hB2 hb.size))
          clear hn2 H1 c0
          go_wp2_with fail
          go_roundw
          case rel => exact ⟨j + 1, d, by omega, by omega, Lib.hid (by have := hd.out; omega), by go_num, rfl, hBl2, hRu, hb⟩
          case measure => simp [intOf] <;> omega
        · have hdd : decide ((X j).length ≤ 1) = false := decide_eq_false fun h => hjk ((hkH.out j hlt).1 h)
          have H1 := Lib.hid (low1_any (R j) (X j) wr x1 false hdd)
          obtain ⟨a1, m1, d1, e1⟩ := x1.isSlice
          rw [e1] at c0 H1
          have hRe := Lib.hid e1
          have hdc : d < c := by have := hd.out; omega
          have hdn : (d : Int) < (n : Int) := by have := hd.out; omega
          clear x1 e1 hdd
          go_wp2_with fail
          refine H1.out.mono ?_
          rintro e u2 ⟨rfl, hn2⟩
          replace hBlk := hBlk.keep hn2
          replace hRu := Lib.hid (fun i (hi : i < n) => (hRu.out i hi).below hn2)
          replace hb := hb.trans (hn2.mono (Nat.le_trans hB2 hb.size))
          have hfin := Lib.hid (show (fun q => if q = d then Value.slice a1 m1 d1 else shf k j R q) = shf k (j + 1) R from funext fun q => by
            have hd' := hd.out
            unfold shf
            by_cases e : q = d
            · rw [if_pos e, if_pos (by omega), show k + q = j by omega, hRe.out]
            · rw [if_neg e]
              by_cases e2 : q < j - k
              · rw [if_pos e2, if_pos (by omega)]
              · rw [if_neg e2, if_neg (by omega)])
          clear hn2 H1 c0
          go_wp2_with ((with_reducible refine wpl_guard ?_); first | (refine wpl_store_arrS rfl 55 _ _ rfl b d rfl (.slice a1 m1 d1) rfl c (shf k j R) 55 hBlk hdc sRowK2 rfl ?_))
          have hg := setRowS_grown u2 b (arr c (shf k (j + 1) R))
          have hS2 : ∀ q, ∃ a m p, shf k j R q = .slice a m p := fun q => by unfold shf; split <;> exact hSH.out _
          have hRu2 := Lib.hid (fun i (hi : i < n) => (hRu.out i hi).grow hBlk (fun q _ => hS2 q) hg)
          have hBl2 := hBlk.setRow_same (cs := arr c (shf k (j + 1) R))
          have hb2 := below_setRow hb hB (arr c (shf k (j + 1) R))
          rw [hfin.out]
          clear hg hS2 hRu hBlk hb hfin
          go_roundw
          case rel => exact ⟨j + 1, d + 1, by omega, by omega, Lib.hid (by have := hd.out; omega), by go_num, by go_num, hBl2, hRu2, hb2⟩
          case measure => simp [intOf] <;> omega
      · have ejn : n = j := by omega
        subst ejn
        have hdk : n - d = k ∧ d + (n - d) ≤ c ∧ d ≤ n := by have := hd.out; omega
        obtain ⟨hd1, hd2, hd3⟩ := hdk
        have hdI : (d : Int) ≤ (n : Int) := by omega
        have hdcI : (d : Int) ≤ (c : Int) := by omega
        have hd1H := Lib.hid hd1
        have hcd : ¬ c = d := by have := hd1H.out; omega
        clear hd1
        go_wp2_with ((with_reducible refine wpl_guard ?_); first | (refine wpl_clear_rows rfl 49 55 _ rfl uRowsK2 zRowK2 b d (n - d) (c - d) c rfl (shf k n R) 55 hBlk hd2 (by have := hd1H.out; omega) ?_; intro v9))
        have hS2 : ∀ q, ∃ a m p, shf k n R q = .slice a m p := fun q => by unfold shf; split <;> exact hSH.out _
        have hRw2 : RwL (wr.setRow b (arr c fun q => if d ≤ q ∧ q < n then .slice none 0 0 else shf k n R q)) (.slice (some ⟨b, 0, none⟩) d c) d (fun i => X (k + i)) :=
          ⟨b, c, fun q => if d ≤ q ∧ q < n then .slice none 0 0 else shf k n R q, rfl, fun i hi => by rw [(hBlk.setRow_same (cs := arr c fun q => if d ≤ q ∧ q < n then .slice none 0 0 else shf k n R q)).cell]; exact arr_get_lt _ (by omega), fun i hi => by
            have e : (if d ≤ i ∧ i < n then Value.slice none 0 0 else shf k n R i) = R (k + i) := by
              rw [if_neg (by omega)]; unfold shf; rw [if_pos (by have := hd.out; omega)]
            show IsRow _ (if d ≤ i ∧ i < n then Value.slice none 0 0 else shf k n R i) (X (k + i))
            rw [e]
            exact (hRu.out (k + i) (by have := hd.out; omega)).grow hBlk (fun q _ => hS2 q) (setRowS_grown _ _ _)⟩
        go_ret
        exact ⟨_, rfl, by rw [← hd.out]; exact hRw2, below_setRow hb hB _⟩
theorem Fac.facs {p n : Int} {F : Nat → Int} {N : Nat} {M : MxL} (h : Fac p n F N M) {k : Nat} (hkn : k ≤ N) (hk : ∀ i, i < N → ((monic p (M i i)).length ≤ 1 ↔ i < k)) (v : Value) (w : World) (hv : IsRows w v N (sqM F)) :
    Calls Try.prog 40 #[.int .i64 p, v] w fun e w' => ∃ v', e = .returned v' ∧ RwL w' v' (N - k) (fun i => monic p (M (k + i) (k + i))) ∧ Below w.heap.size w w' := by
  have hinv := Lib.hid (h.invs v w hv)
  have hN0 := h.pos
  have hN6 := h.le
  have hkH := Lib.hid hk
  obtain ⟨Rs, oa, cap, rfl, _⟩ := hv
  clear h hk
  go_enter Try.func40, Try.ntmps40
  go_wp2_with fail
  refine hinv.out.mono ?_
  rintro e u1 ⟨b, c, R, rfl, hB, hL, hR, hn⟩
  rcases hL with ⟨h0, _⟩ | ⟨b', c', h1, h2, h3, h4, h5, h6⟩
  · simp at h0
  simp only [Value.slice.injEq, Option.some.injEq, Addr.mk.injEq, and_true, true_and] at h1
  obtain ⟨rfl, rfl⟩ := h1
  have hdel := Lib.hid (deleteLow b c N k w.heap.size R (fun i => monic p (M i i)) u1 hN0 hN6 h3 hB hn.size h5 h6 hR hkn hkH.out)
  clear h5 h6 hR hinv
  unfold lowF at hdel
  go_wp2_with fail
  refine hdel.out.mono ?_
  rintro e u2 ⟨v2, rfl, hv2, hn2⟩
  replace hn := hn.trans hn2
  clear hdel hn2
  go_wp2_with fail
  go_ret
  exact ⟨_, rfl, hv2, hn⟩
end Go.Proofs.Ytnkkkgaojhkniab

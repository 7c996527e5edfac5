/- Walks: lists of arrays handed to the laws as lists of polynomials. -/
import Derived.Test.YtionaenmjndncabF8
set_option linter.unusedVariables false
set_option linter.unusedSimpArgs false
namespace Go.Proofs.Ytionaenmjndncab
open Go.RowKit
section
variable {P : Program} {ops : Array Oper} {rest : List Oper} {o : Oper} {a : Act} {w : World} {Q : Exit → Act → World → Prop}
/-- An array of 64 bytes stored into a list's place. -/
theorem wpl_store_fl (hw : Region.wanted o (yielded ops a.tmps) = true) (t : TypeId) (x y : Operand) (hop : o.op = .store t x y) (g k : Nat) (hx : a.eval x = .pointer (some ⟨g, k * 64, none⟩)) (f : Nat → Int) (hy : a.eval y = .agg (u8s 64 f))
    (B n cap : Nat) (F : Nat → Int) (hP : Fl w B (.slice (some ⟨g, 0, none⟩) n cap) n F) (hk : k < n) (hs : (P.info? t).map (·.size) = some 64)
    (h : ∀ w', Fl w' B (.slice (some ⟨g, 0, none⟩) n cap) n (fun j => if k * 64 ≤ j ∧ j < k * 64 + 64 then f (j - k * 64) else F j) → w.grownBy w' (some g) → wpList P ops Q rest (a.put o.dst undef) w') : wpList P ops Q (o :: rest) a w := by
  refine wpl_wanted hw fun K hK => ?_
  rcases hP.2 with ⟨h', _⟩ | ⟨g', cap', cur, h', hb, hg, hnc, hcm, hcs, htake⟩
  · simp at h'
  · simp only [Value.slice.injEq, Option.some.injEq, Addr.mk.injEq, and_true, true_and] at h'
    obtain ⟨rfl, rfl⟩ := h'
    have hvl : (u8s 64 f).toList.length = 64 := by rw [Array.length_toList, u8s_size]
    have hkn : k * 64 + 64 ≤ n * 64 := by omega
    have hnc2 : n * 64 ≤ cap * 64 := Nat.mul_le_mul_right _ hnc
    have hr := run_storeCells_at (P := P) g (k * 64) _ (u8s 64 f).toList 0 cur w hg (by rw [hvl, hcs]; omega) (fun v hv => (Array.all_eq_true_iff_forall_mem.1 (u8s_oneCell 64 f)) v (by simpa using hv))
    simp only [Nat.add_zero, hvl] at hr
    have hcl : cur.toList.length = cap * 64 := by rw [Array.length_toList]; exact hcs
    obtain ⟨i, hi, hsz⟩ := Option.map_eq_some_iff.1 hs
    have hh := hK _ _ (h (w.setRow g (cur.toList.take (k * 64) ++ (u8s 64 f).toList ++ cur.toList.drop (k * 64 + 64)).toArray) ⟨by simp, .inr ⟨g, cap, _, rfl, hb, setRow_heap w g cur _ _ _ hg, hnc, hcm, by
        simp only [List.size_toArray, List.length_append, List.length_take, List.length_drop, hcl, hvl]; omega, by
        apply List.ext_getElem?
        intro j
        by_cases hj : j < n * 64
        · rw [List.getElem?_take, if_pos hj, List.getElem?_map, List.getElem?_range hj]
          have h5 : cur.toList[j]? = some (Value.int .u8 (F j)) := by
            have : (cur.toList.take (n * 64))[j]? = some (Value.int .u8 (F j)) := by rw [htake, List.getElem?_map, List.getElem?_range hj]; rfl
            rwa [List.getElem?_take, if_pos hj] at this
          show _ = some (Value.int .u8 (if k * 64 ≤ j ∧ j < k * 64 + 64 then f (j - k * 64) else F j))
          by_cases h1 : j < k * 64
          · rw [List.append_assoc, List.getElem?_append_left (by rw [List.length_take]; omega), List.getElem?_take, if_pos h1, h5, if_neg (by omega)]
          · by_cases h2 : j < k * 64 + 64
            · rw [List.append_assoc, List.getElem?_append_right (by rw [List.length_take]; omega), List.length_take, hcl, Nat.min_eq_left (by omega), List.getElem?_append_left (by omega), Array.getElem?_toList, u8s_get _ (by omega), if_pos (by omega)]
            · rw [List.getElem?_append_right (by rw [List.length_append, List.length_take]; omega), List.length_append, List.length_take, hcl, Nat.min_eq_left (by omega), hvl, List.getElem?_drop, show k * 64 + 64 + (j - (k * 64 + 64)) = j by omega, h5, if_neg (by omega)]
        · rw [List.getElem?_eq_none (by rw [List.length_take]; omega), List.getElem?_eq_none (by simp; omega)]⟩⟩
      ⟨rfl, rfl, rfl, by simp, fun k' _ hk' => setRow_other w g k' _ (fun e => hk' (by simp [e]))⟩)
    unfold Oper.wp execOp
    simp only [hop, hx, hy, Instr.storeAt, Instr.sureAddr, storeVar, sizeOf, typeInfo, Value.cells]
    simp [Sem.run_bind, hi, hsz, u8s_size, hr, Oper.upon]
    simpa only [List.append_assoc] using hh
/-- A new list of arrays of zeros. -/
theorem wpl_make_fl (hw : Region.wanted o (yielded ops a.tmps) = true) (t : TypeId) (l c : Operand) (hop : o.op = .makeSlice t l c) (ht : P.underlying t = some (.slice 23))
    (hinfo : (P.info? 23).map (fun i => (i.zero, i.size, i.bytes)) = some (some (.agg (u8s 64 fun _ => 0)), 64, 64))
    (kl kc : IntKind) (n : Nat) (hl : a.eval l = .int kl (n : Int)) (hc : a.eval c = .int kc (n : Int)) (hn : n ≤ 10000000) (B : Nat) (hB : B ≤ w.heap.size)
    (h : ∀ w', Fl w' B (.slice (some ⟨w.heap.size, 0, none⟩) n n) n (fun _ => 0) → w.grownBy w' none → wpList P ops Q rest (a.put o.dst (.slice (some ⟨w.heap.size, 0, none⟩) n n)) w') : wpList P ops Q (o :: rest) a w := by
  refine wpl_wanted hw fun K hK => ?_
  obtain ⟨i, hi, hz, hsz, hby⟩ := info_parts hinfo
  obtain ⟨w', hr, h2, h3⟩ := run_make_full (P := P) w B t 23 i _ 64 ht hi hz hsz kl kc n (by rw [hby]; omega) (by unfold maxLen; omega) hB
  have h4 : Fl w' B (.slice (some ⟨w.heap.size, 0, none⟩) n n) n (fun _ => 0) := by
    unfold Fl
    have e : (madeCells (Value.agg (u8s 64 fun _ => 0)).cells (n * 64)).toList = (List.range (n * 64)).map fun _ => Value.int .u8 0 := by
      apply List.ext_getElem?
      intro j
      by_cases hj : j < n * 64
      · rw [List.getElem?_map, List.getElem?_range hj]
        have h5 : (u8s 64 fun _ => 0)[j % 64]? = some (Value.int .u8 0) := u8s_get _ (by omega)
        have h6 : (u8s 64 fun _ => 0)[j % 64]! = Value.int .u8 0 := by rw [getElem!_def, h5]
        simp [madeCells, Value.cells, hj, u8s_size, h5, h6]
      · rw [List.getElem?_eq_none (by simp [madeCells]; omega), List.getElem?_eq_none (by simp; omega)]
    rw [← e]; exact h2
  have hh := hK _ _ (h w' h4 h3)
  unfold Oper.wp execOp
  simp only [hop, hl, hc, Sem.run_bind, hr, Result.andThen_ok]
  exact hh
end
theorem szPolyS_any (oa : Option Addr) (n cap left : Nat) (w : World) (hl : left ≤ 10000000) (hn : n ≤ 9223372036854775807) :
    Calls Try.prog 20 #[.slice oa n cap, .int .i64 (left : Int)] w fun e w' => e = .returned (.int .i64 (if n ≤ left then ((left - n : Nat) : Int) else -1)) ∧ w = w' := by
  by_cases h : n ≤ left
  · have e1 : ((left : Int) - (n : Int)) = ((left - n : Nat) : Int) := by omega
    rw [if_pos h]
    go_enter Try.func20, Try.ntmps20
    go_wp2_with fail
    go_ret
    exact ⟨rfl, rfl⟩
  · have e1 : ((left : Int) - (n : Int)) < 0 := by omega
    rw [if_neg h]
    go_enter Try.func20, Try.ntmps20
    go_wp2_with fail
    go_ret
    exact ⟨rfl, rfl⟩
set_option maxRecDepth 20000 in
set_option maxHeartbeats 1000000 in
theorem toPolyS_any (oa : Option Addr) (n cap : Nat) (F : Nat → Int) (w : World) (hC : CellsAt w oa (n * 64) (fun j => .int .u8 (F j))) (hn : n ≤ 10000000) :
    Calls Try.prog 22 #[.slice oa n cap] w fun e w' => ∃ g, e = .returned (.slice (some ⟨g, 0, none⟩) n n) ∧ Fl w' w.heap.size (.slice (some ⟨g, 0, none⟩) n n) n F ∧ Below w.heap.size w w' := by
  have hCH := Lib.hid hC
  clear hC
  go_enter Try.func22, Try.ntmps22
  go_wp2_with (first | (refine wpl_make_fl rfl 29 _ _ rfl uPolys1 iPoly .i64 .i64 n rfl rfl hn w.heap.size (Nat.le_refl _) ?_; intro w2 hFl hg2))
  have hF0 := Lib.hid hFl
  have hb0 : Below w.heap.size w w2 := grown_belowP hg2 (fun k e => by cases e) (Nat.le_refl _)
  clear hFl hg2
  go_loopw [4] (fun i wr => ∃ k : Nat, k ≤ n ∧ i = .int .i64 (k : Int) ∧ Hid (Fl wr w.heap.size (.slice (some ⟨w.heap.size, 0, none⟩) n n) n (fun j => if j < k * 64 then F j else 0)) ∧ Below w.heap.size w wr) (fun i _ => n - (intOf i).toNat)
  case atStart => exact ⟨0, by omega, rfl, Lib.hid (hF0.out.ext fun j hj => by rw [if_neg (by omega)]), hb0⟩
  case round =>
    clear hF0 hb0
    obtain ⟨k, hk, rfl, hF, hb⟩ := hrel
    by_cases hlt : k < n
    · obtain ⟨g, o, rfl, hcell⟩ := hCH.out (by omega)
      have hcl := Lib.hid (show ∀ r, r < 64 → wr.cell? ⟨g, o + k * 64 + r, none⟩ = some (.int .u8 (F (k * 64 + r))) from fun r hr => by
        have := cell_below (hcell (k * 64 + r) (by omega)) hb
        rwa [← Nat.add_assoc] at this)
      clear hcell
      go_wp2_with ((with_reducible refine wpl_guard ?_); first | (refine wpl_load_mid rfl 22 _ rfl g (o + k * 64) rfl 64 _ _ hcl.out uArr64 sArr64 ?_))
      refine (toPoly_any (fun r => F (k * 64 + r)) _).mono ?_
      rintro e w4 ⟨rfl, hn4⟩
      have hF4 := hF.out.below hn4
      have hb4 := below_step hb hn4
      clear hF hb hn4 hcl
      go_wp2_with ((with_reducible refine wpl_guard ?_); first | (refine wpl_store_fl rfl 23 _ _ rfl w.heap.size k rfl (fun r => F (k * 64 + r)) rfl w.heap.size n n _ hF4 hlt sPoly ?_; intro w6 hF6 hg6))
      have hF7 := Lib.hid (hF6.ext (G := fun j => if j < (k + 1) * 64 then F j else 0) fun j hj => by
        by_cases h1 : k * 64 ≤ j ∧ j < k * 64 + 64
        · rw [if_pos h1, if_pos (by omega), show k * 64 + (j - k * 64) = j by omega]
        · rw [if_neg h1]
          by_cases h2 : j < k * 64
          · rw [if_pos h2, if_pos (by omega)]
          · rw [if_neg h2, if_neg (by omega)])
      have hb7 := hb4.trans (grown_belowP hg6 (fun q e => by injection e with e; omega) hb4.size)
      clear hF6 hg6 hF4 hb4
      go_wp2_with fail
      go_roundw
      case rel => exact ⟨k + 1, by omega, by go_num, hF7, hb7⟩
      case measure => simp [intOf] <;> omega
    · obtain rfl : k = n := by omega
      go_wp2_with fail
      go_ret
      exact ⟨_, rfl, hF.out.ext fun j hj => if_pos hj, hb⟩
end Go.Proofs.Ytionaenmjndncab

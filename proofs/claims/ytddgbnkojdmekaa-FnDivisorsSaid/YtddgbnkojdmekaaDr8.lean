/- Walks: the draws. -/
import Derived.Test.YtddgbnkojdmekaaDr7
set_option linter.unusedVariables false
set_option linter.unusedSimpArgs false
namespace Go.Proofs.Ytddgbnkojdmekaa
open Go.RowKit
set_option maxRecDepth 20000 in
set_option maxHeartbeats 4000000 in
theorem DrawBezoutOf_any (oa : Option Addr) (n c : Nat) (w : World) (hnm : n ≤ maxLen) (hc : CodeAt w oa n) :
    Calls Try.prog 5 #[.slice oa n c] w fun e w' => ∃ p f h, e = .returned (.tuple #[.int .i64 p, .agg (u8s 64 f), .agg (u8s 64 h)]) ∧ -3 ≤ p ∧ p ≤ 11 ∧ By f ∧ By h ∧ Below w.heap.size w w' := by
  obtain ⟨hb, hZ3, hZ4⟩ := boxes2 w (u8s 64 fun _ => 0) (u8s 64 fun _ => 0) 25 25
  have hF := Lib.hid (l01Both_any oa n c _ hnm (hc.below hb))
  clear hc hnm
  go_enter Try.func5, Try.ntmps5
  go_wp2_with ((with_reducible refine wpl_guard ?_); first | (refine wpl_alloc_arr rfl 25 rfl _ zPoly ?_))
  refine hF.out.mono ?_
  rintro e wz1 ⟨p, f, h, rfl, hp0, hp1, hf, hh, hn⟩
  replace hZ3 := hZ3.keep hn
  replace hZ4 := hZ4.keep hn
  replace hb := below_step hb hn
  have hlo := hZ4.lt
  have hA0 := (Blk.new wz1 (u8s 64 fun _ => 0) 25).alloc (.cells (u8s 64 fun _ => 0) 25)
  have hB0 := Blk.newAt (w := wz1.alloc (.cells (u8s 64 fun _ => 0) 25)) (n := wz1.heap.size + 1) (by simp) (u8s 64 fun _ => 0) 25
  have hA1 := hA0.setRow_same (cs := u8s 64 f)
  have hB1 := hB0.setRow_other (g := wz1.heap.size) (cs := u8s 64 f) (by omega)
  have h6 := hA1.setRow_other (g := wz1.heap.size + 1) (cs := u8s 64 h) (by omega)
  have h7 := hB1.setRow_same (cs := u8s 64 h)
  have hn2 : Below wz1.heap.size wz1 ((((wz1.alloc (.cells (u8s 64 fun _ => 0) 25)).alloc (.cells (u8s 64 fun _ => 0) 25)).setRow wz1.heap.size (u8s 64 f)).setRow (wz1.heap.size + 1) (u8s 64 h)) :=
    below_setRow (below_setRow ((below_new wz1 _).alloc (by simp) _) (Nat.le_refl _) _) (by omega) _
  replace hZ3 := hZ3.keep hn2
  replace hZ4 := hZ4.keep hn2
  replace hb := below_step hb hn2
  have hfH := Lib.hid hf
  have hhH := Lib.hid hh
  clear hn hn2 hF hf hh hA1
  go_upto_region 2 with ((with_reducible refine wpl_guard ?_); first | (refine wpl_alloc_arr rfl 25 rfl _ zPoly ?_) | (refine wpl_store_arr rfl 25 _ _ rfl _ rfl (u8s 64 f) rfl (u8s 64 fun _ => 0) 25 hA0 sPoly (by simp only [u8s_size]) (u8s_oneCell _ _) ?_) | (refine wpl_store_arr rfl 25 _ _ rfl _ rfl (u8s 64 h) rfl (u8s 64 fun _ => 0) 25 (by first | exact hB1 | (rw [size_alloc]; exact hB1)) sPoly (by simp only [u8s_size]) (u8s_oneCell _ _) ?_))
  try simp only [Act.put, List.setIfInBounds_toArray, List.set_cons_zero, List.set_cons_succ, size_alloc]
  clear hA0 hB0 hB1
  refine gen_region (ws := w) (w := _) (B := w.heap.size) (by kernel_rfl) (by kernel_rfl) (by kernel_rfl) (by kernel_rfl)
      (fun i => ([fun zv _ => zv = .int .i64 p, fun zv _ => zv = .agg (u8s 64 f), fun zv _ => zv = .agg (u8s 64 h), fun zv _ => zv = .int .i64 p, fun _ _ => True, fun _ _ => True] : List (Value → World → Prop)).getD i (fun _ _ => True))
      (fun i => ([true, true, true, true, true, true] : List Bool).getD i true)
      2 (fun zk => [4, 5].getD zk 0) (fun zk => [1, 2].getD zk 0) (fun zk => [3, 4].getD zk 0) (fun zk => [15, 16].getD zk 0) (fun zk => [w.heap.size, w.heap.size + 1].getD zk 0) (fun zk => [64, 64].getD zk 0) (fun zk => [(f), (h)].getD zk (fun _ => 0)) (fun zk => [(fun _ => 0), (fun _ => 0)].getD zk (fun _ => 0)) (fun zk => [25, 25].getD zk 0) hb (Nat.le_refl _)
      (fun w' => Blk w' (wz1.heap.size) (u8s 64 f) 25 ∧ Blk w' (wz1.heap.size + 1) (u8s 64 h) 25 ∧ True) ⟨h6.drew, h7.drew, trivial⟩ (fun w1 w2 h hb => ⟨h.1.keep hb, h.2.1.keep hb, trivial⟩) ?_ ?_ ?_ ?_ ?_ ?_ ?_
  · intro k hk w1 cs h
    rcases k with _|_|k
    · exact ⟨h.1.setRow_other (by simp only [List.getD_cons_zero, List.getD_cons_succ] <;> omega), h.2.1.setRow_other (by simp only [List.getD_cons_zero, List.getD_cons_succ] <;> omega), trivial⟩
    · exact ⟨h.1.setRow_other (by simp only [List.getD_cons_zero, List.getD_cons_succ] <;> omega), h.2.1.setRow_other (by simp only [List.getD_cons_zero, List.getD_cons_succ] <;> omega), trivial⟩
    · omega
  · intro i v w1 w2 h hb
    rcases i with _|_|_|_|_|_|i
    · exact h
    · exact h
    · exact h
    · exact h
    · exact h
    · exact h
    · exact h
  · intro k hk
    rcases k with _|_|k
    · kernel_rfl
    · kernel_rfl
    · omega
  · intro k hk
    rcases k with _|_|k
    · refine ⟨?_, (by kernel_rfl), hZ3, fun v w' h => h, by decide, ?_⟩
      · simp only [List.getD_cons_zero, List.getD_cons_succ] <;> omega
      · intro k' hk' hne
        rcases k' with _|_|k'
        all_goals first | omega | exact absurd rfl hne | (refine ⟨?_, by decide⟩; simp only [List.getD_cons_zero, List.getD_cons_succ]; omega)
    · refine ⟨?_, (by kernel_rfl), hZ4, fun v w' h => h, by decide, ?_⟩
      · simp only [List.getD_cons_zero, List.getD_cons_succ] <;> omega
      · intro k' hk' hne
        rcases k' with _|_|k'
        all_goals first | omega | exact absurd rfl hne | (refine ⟨?_, by decide⟩; simp only [List.getD_cons_zero, List.getD_cons_succ]; omega)
    · omega
  · kernel_rfl
  · intro i o ho hz a w2 hBs hSx hBl hrd hpar
    rcases i with _|_|_|_|_|_|i
    · obtain rfl := Option.some.inj ho
      have e5 : a.eval (.tmp 5) = .int .i64 p := hpar 5 _ (by kernel_rfl) (by kernel_rfl)
      exact wpv_of (wp_move _ _ rfl e5) (fun _ _ => rfl)
    · obtain rfl := Option.some.inj ho
      exact wpv_of (wp_loadB 25 _ rfl _ (hpar 6 (.pointer (some ⟨wz1.heap.size, 0, none⟩)) (by kernel_rfl) (by kernel_rfl)) _ _ hSx.1 _ _ uPoly sPoly) (fun _ _ => rfl)
    · obtain rfl := Option.some.inj ho
      exact wpv_of (wp_loadB 25 _ rfl _ (hpar 7 (.pointer (some ⟨wz1.heap.size + 1, 0, none⟩)) (by kernel_rfl) (by kernel_rfl)) _ _ hSx.2.1 _ _ uPoly sPoly) (fun _ _ => rfl)
    · obtain rfl := Option.some.inj ho
      obtain ⟨_, e14⟩ : ∃ _w : World, a.eval (.tmp 14) = .int .i64 p := (hrd 0 _ 14 rfl rfl (by kernel_rfl) (by kernel_rfl) (by decide)).1
      exact wpv_of (wp_assign _ _ rfl e14) (fun _ _ => rfl)
    · exact absurd rfl (hz 0 (by decide))
    · exact absurd rfl (hz 1 (by decide))
    · simp at ho
  intro vals xE hBx hSx hS0 hcs hrs
  obtain ⟨_, e0⟩ : ∃ _w : World, vals 0 = .int .i64 p := hcs 0 (by simp) (by decide)
  obtain ⟨_, e1⟩ : ∃ _w : World, vals 1 = .agg (u8s 64 f) := hcs 1 (by simp) (by decide)
  obtain ⟨_, e2⟩ : ∃ _w : World, vals 2 = .agg (u8s 64 h) := hcs 2 (by simp) (by decide)
  obtain ⟨_, e3⟩ : ∃ _w : World, vals 3 = .int .i64 p := hcs 3 (by simp) (by decide)
  have hsE0 : Blk xE (w.heap.size) (u8s 64 (f)) 25 := hrs 0 (by decide)
  have hsE1 : Blk xE (w.heap.size + 1) (u8s 64 (h)) 25 := hrs 1 (by decide)
  simp only [List.length_cons, List.length_nil, Nat.zero_add, Nat.reduceAdd, List.replicate, putAll, if_true, Act.put, List.setIfInBounds_toArray, List.set_cons_zero, List.set_cons_succ, e0, e1, e2, e3]
  replace h6 := hSx.1
  replace h7 := hSx.2.1
  clear hcs hrs hS0 hSx e0 e1 e2 e3
  go_wp2_with fail
  exact bodyPost_ret (res_tcc (x := .int .i64 p) rfl rfl hsE0 uPoly sPoly rfl hsE1 uPoly sPoly rfl) rfl ⟨_, _, _, rfl, hp0, hp1, hfH.out, hhH.out, hBx⟩
set_option maxRecDepth 20000 in
set_option maxHeartbeats 4000000 in
theorem DrawSubtractPolys_any (oa : Option Addr) (n c : Nat) (w : World) (hnm : n ≤ maxLen) (hc : CodeAt w oa n) :
    Calls Try.prog 22 #[.slice oa n c] w fun e w' => ∃ p f h, e = .returned (.tuple #[.int .i64 p, .agg (u8s 64 f), .agg (u8s 64 h)]) ∧ -3 ≤ p ∧ p ≤ 11 ∧ By f ∧ By h ∧ Below w.heap.size w w' := by
  obtain ⟨hb, hZ3, hZ4⟩ := boxes2 w (u8s 64 fun _ => 0) (u8s 64 fun _ => 0) 25 25
  have hF := Lib.hid (l01Both_any oa n c _ hnm (hc.below hb))
  clear hc hnm
  go_enter Try.func22, Try.ntmps22
  go_wp2_with ((with_reducible refine wpl_guard ?_); first | (refine wpl_alloc_arr rfl 25 rfl _ zPoly ?_))
  refine hF.out.mono ?_
  rintro e wz1 ⟨p, f, h, rfl, hp0, hp1, hf, hh, hn⟩
  replace hZ3 := hZ3.keep hn
  replace hZ4 := hZ4.keep hn
  replace hb := below_step hb hn
  have hlo := hZ4.lt
  have hA0 := (Blk.new wz1 (u8s 64 fun _ => 0) 25).alloc (.cells (u8s 64 fun _ => 0) 25)
  have hB0 := Blk.newAt (w := wz1.alloc (.cells (u8s 64 fun _ => 0) 25)) (n := wz1.heap.size + 1) (by simp) (u8s 64 fun _ => 0) 25
  have hA1 := hA0.setRow_same (cs := u8s 64 f)
  have hB1 := hB0.setRow_other (g := wz1.heap.size) (cs := u8s 64 f) (by omega)
  have h6 := hA1.setRow_other (g := wz1.heap.size + 1) (cs := u8s 64 h) (by omega)
  have h7 := hB1.setRow_same (cs := u8s 64 h)
  have hn2 : Below wz1.heap.size wz1 ((((wz1.alloc (.cells (u8s 64 fun _ => 0) 25)).alloc (.cells (u8s 64 fun _ => 0) 25)).setRow wz1.heap.size (u8s 64 f)).setRow (wz1.heap.size + 1) (u8s 64 h)) :=
    below_setRow (below_setRow ((below_new wz1 _).alloc (by simp) _) (Nat.le_refl _) _) (by omega) _
  replace hZ3 := hZ3.keep hn2
  replace hZ4 := hZ4.keep hn2
  replace hb := below_step hb hn2
  have hfH := Lib.hid hf
  have hhH := Lib.hid hh
  clear hn hn2 hF hf hh hA1
  go_upto_region 2 with ((with_reducible refine wpl_guard ?_); first | (refine wpl_alloc_arr rfl 25 rfl _ zPoly ?_) | (refine wpl_store_arr rfl 25 _ _ rfl _ rfl (u8s 64 f) rfl (u8s 64 fun _ => 0) 25 hA0 sPoly (by simp only [u8s_size]) (u8s_oneCell _ _) ?_) | (refine wpl_store_arr rfl 25 _ _ rfl _ rfl (u8s 64 h) rfl (u8s 64 fun _ => 0) 25 (by first | exact hB1 | (rw [size_alloc]; exact hB1)) sPoly (by simp only [u8s_size]) (u8s_oneCell _ _) ?_))
  try simp only [Act.put, List.setIfInBounds_toArray, List.set_cons_zero, List.set_cons_succ, size_alloc]
  clear hA0 hB0 hB1
  refine gen_region (ws := w) (w := _) (B := w.heap.size) (by kernel_rfl) (by kernel_rfl) (by kernel_rfl) (by kernel_rfl)
      (fun i => ([fun zv _ => zv = .int .i64 p, fun zv _ => zv = .agg (u8s 64 f), fun zv _ => zv = .agg (u8s 64 h), fun zv _ => zv = .int .i64 p, fun _ _ => True, fun _ _ => True] : List (Value → World → Prop)).getD i (fun _ _ => True))
      (fun i => ([true, true, true, true, true, true] : List Bool).getD i true)
      2 (fun zk => [4, 5].getD zk 0) (fun zk => [1, 2].getD zk 0) (fun zk => [3, 4].getD zk 0) (fun zk => [15, 16].getD zk 0) (fun zk => [w.heap.size, w.heap.size + 1].getD zk 0) (fun zk => [64, 64].getD zk 0) (fun zk => [(f), (h)].getD zk (fun _ => 0)) (fun zk => [(fun _ => 0), (fun _ => 0)].getD zk (fun _ => 0)) (fun zk => [25, 25].getD zk 0) hb (Nat.le_refl _)
      (fun w' => Blk w' (wz1.heap.size) (u8s 64 f) 25 ∧ Blk w' (wz1.heap.size + 1) (u8s 64 h) 25 ∧ True) ⟨h6.drew, h7.drew, trivial⟩ (fun w1 w2 h hb => ⟨h.1.keep hb, h.2.1.keep hb, trivial⟩) ?_ ?_ ?_ ?_ ?_ ?_ ?_
  · intro k hk w1 cs h
    rcases k with _|_|k
    · exact ⟨h.1.setRow_other (by simp only [List.getD_cons_zero, List.getD_cons_succ] <;> omega), h.2.1.setRow_other (by simp only [List.getD_cons_zero, List.getD_cons_succ] <;> omega), trivial⟩
    · exact ⟨h.1.setRow_other (by simp only [List.getD_cons_zero, List.getD_cons_succ] <;> omega), h.2.1.setRow_other (by simp only [List.getD_cons_zero, List.getD_cons_succ] <;> omega), trivial⟩
    · omega
  · intro i v w1 w2 h hb
    rcases i with _|_|_|_|_|_|i
    · exact h
    · exact h
    · exact h
    · exact h
    · exact h
    · exact h
    · exact h
  · intro k hk
    rcases k with _|_|k
    · kernel_rfl
    · kernel_rfl
    · omega
  · intro k hk
    rcases k with _|_|k
    · refine ⟨?_, (by kernel_rfl), hZ3, fun v w' h => h, by decide, ?_⟩
      · simp only [List.getD_cons_zero, List.getD_cons_succ] <;> omega
      · intro k' hk' hne
        rcases k' with _|_|k'
        all_goals first | omega | exact absurd rfl hne | (refine ⟨?_, by decide⟩; simp only [List.getD_cons_zero, List.getD_cons_succ]; omega)
    · refine ⟨?_, (by kernel_rfl), hZ4, fun v w' h => h, by decide, ?_⟩
      · simp only [List.getD_cons_zero, List.getD_cons_succ] <;> omega
      · intro k' hk' hne
        rcases k' with _|_|k'
        all_goals first | omega | exact absurd rfl hne | (refine ⟨?_, by decide⟩; simp only [List.getD_cons_zero, List.getD_cons_succ]; omega)
    · omega
  · kernel_rfl
  · intro i o ho hz a w2 hBs hSx hBl hrd hpar
    rcases i with _|_|_|_|_|_|i
    · obtain rfl := Option.some.inj ho
      have e5 : a.eval (.tmp 5) = .int .i64 p := hpar 5 _ (by kernel_rfl) (by kernel_rfl)
      exact wpv_of (wp_move _ _ rfl e5) (fun _ _ => rfl)
    · obtain rfl := Option.some.inj ho
      exact wpv_of (wp_loadB 25 _ rfl _ (hpar 6 (.pointer (some ⟨wz1.heap.size, 0, none⟩)) (by kernel_rfl) (by kernel_rfl)) _ _ hSx.1 _ _ uPoly sPoly) (fun _ _ => rfl)
    · obtain rfl := Option.some.inj ho
      exact wpv_of (wp_loadB 25 _ rfl _ (hpar 7 (.pointer (some ⟨wz1.heap.size + 1, 0, none⟩)) (by kernel_rfl) (by kernel_rfl)) _ _ hSx.2.1 _ _ uPoly sPoly) (fun _ _ => rfl)
    · obtain rfl := Option.some.inj ho
      obtain ⟨_, e14⟩ : ∃ _w : World, a.eval (.tmp 14) = .int .i64 p := (hrd 0 _ 14 rfl rfl (by kernel_rfl) (by kernel_rfl) (by decide)).1
      exact wpv_of (wp_assign _ _ rfl e14) (fun _ _ => rfl)
    · exact absurd rfl (hz 0 (by decide))
    · exact absurd rfl (hz 1 (by decide))
    · simp at ho
  intro vals xE hBx hSx hS0 hcs hrs
  obtain ⟨_, e0⟩ : ∃ _w : World, vals 0 = .int .i64 p := hcs 0 (by simp) (by decide)
  obtain ⟨_, e1⟩ : ∃ _w : World, vals 1 = .agg (u8s 64 f) := hcs 1 (by simp) (by decide)
  obtain ⟨_, e2⟩ : ∃ _w : World, vals 2 = .agg (u8s 64 h) := hcs 2 (by simp) (by decide)
  obtain ⟨_, e3⟩ : ∃ _w : World, vals 3 = .int .i64 p := hcs 3 (by simp) (by decide)
  have hsE0 : Blk xE (w.heap.size) (u8s 64 (f)) 25 := hrs 0 (by decide)
  have hsE1 : Blk xE (w.heap.size + 1) (u8s 64 (h)) 25 := hrs 1 (by decide)
  simp only [List.length_cons, List.length_nil, Nat.zero_add, Nat.reduceAdd, List.replicate, putAll, if_true, Act.put, List.setIfInBounds_toArray, List.set_cons_zero, List.set_cons_succ, e0, e1, e2, e3]
  replace h6 := hSx.1
  replace h7 := hSx.2.1
  clear hcs hrs hS0 hSx e0 e1 e2 e3
  go_wp2_with fail
  exact bodyPost_ret (res_tcc (x := .int .i64 p) rfl rfl hsE0 uPoly sPoly rfl hsE1 uPoly sPoly rfl) rfl ⟨_, _, _, rfl, hp0, hp1, hfH.out, hhH.out, hBx⟩
set_option maxRecDepth 20000 in
set_option maxHeartbeats 4000000 in
theorem DrawGcdOf_any (oa : Option Addr) (n c : Nat) (w : World) (hnm : n ≤ maxLen) (hc : CodeAt w oa n) :
    Calls Try.prog 25 #[.slice oa n c] w fun e w' => ∃ p f h, e = .returned (.tuple #[.int .i64 p, .agg (u8s 64 f), .agg (u8s 64 h)]) ∧ -3 ≤ p ∧ p ≤ 11 ∧ By f ∧ By h ∧ Below w.heap.size w w' := by
  obtain ⟨hb, hZ3, hZ4⟩ := boxes2 w (u8s 64 fun _ => 0) (u8s 64 fun _ => 0) 25 25
  have hF := Lib.hid (l01Both_any oa n c _ hnm (hc.below hb))
  clear hc hnm
  go_enter Try.func25, Try.ntmps25
  go_wp2_with ((with_reducible refine wpl_guard ?_); first | (refine wpl_alloc_arr rfl 25 rfl _ zPoly ?_))
  refine hF.out.mono ?_
  rintro e wz1 ⟨p, f, h, rfl, hp0, hp1, hf, hh, hn⟩
  replace hZ3 := hZ3.keep hn
  replace hZ4 := hZ4.keep hn
  replace hb := below_step hb hn
  have hlo := hZ4.lt
  have hA0 := (Blk.new wz1 (u8s 64 fun _ => 0) 25).alloc (.cells (u8s 64 fun _ => 0) 25)
  have hB0 := Blk.newAt (w := wz1.alloc (.cells (u8s 64 fun _ => 0) 25)) (n := wz1.heap.size + 1) (by simp) (u8s 64 fun _ => 0) 25
  have hA1 := hA0.setRow_same (cs := u8s 64 f)
  have hB1 := hB0.setRow_other (g := wz1.heap.size) (cs := u8s 64 f) (by omega)
  have h6 := hA1.setRow_other (g := wz1.heap.size + 1) (cs := u8s 64 h) (by omega)
  have h7 := hB1.setRow_same (cs := u8s 64 h)
  have hn2 : Below wz1.heap.size wz1 ((((wz1.alloc (.cells (u8s 64 fun _ => 0) 25)).alloc (.cells (u8s 64 fun _ => 0) 25)).setRow wz1.heap.size (u8s 64 f)).setRow (wz1.heap.size + 1) (u8s 64 h)) :=
    below_setRow (below_setRow ((below_new wz1 _).alloc (by simp) _) (Nat.le_refl _) _) (by omega) _
  replace hZ3 := hZ3.keep hn2
  replace hZ4 := hZ4.keep hn2
  replace hb := below_step hb hn2
  have hfH := Lib.hid hf
  have hhH := Lib.hid hh
  clear hn hn2 hF hf hh hA1
  go_upto_region 2 with ((with_reducible refine wpl_guard ?_); first | (refine wpl_alloc_arr rfl 25 rfl _ zPoly ?_) | (refine wpl_store_arr rfl 25 _ _ rfl _ rfl (u8s 64 f) rfl (u8s 64 fun _ => 0) 25 hA0 sPoly (by simp only [u8s_size]) (u8s_oneCell _ _) ?_) | (refine wpl_store_arr rfl 25 _ _ rfl _ rfl (u8s 64 h) rfl (u8s 64 fun _ => 0) 25 (by first | exact hB1 | (rw [size_alloc]; exact hB1)) sPoly (by simp only [u8s_size]) (u8s_oneCell _ _) ?_))
  try simp only [Act.put, List.setIfInBounds_toArray, List.set_cons_zero, List.set_cons_succ, size_alloc]
  clear hA0 hB0 hB1
  refine gen_region (ws := w) (w := _) (B := w.heap.size) (by kernel_rfl) (by kernel_rfl) (by kernel_rfl) (by kernel_rfl)
      (fun i => ([fun zv _ => zv = .int .i64 p, fun zv _ => zv = .agg (u8s 64 f), fun zv _ => zv = .agg (u8s 64 h), fun zv _ => zv = .int .i64 p, fun _ _ => True, fun _ _ => True] : List (Value → World → Prop)).getD i (fun _ _ => True))
      (fun i => ([true, true, true, true, true, true] : List Bool).getD i true)
      2 (fun zk => [4, 5].getD zk 0) (fun zk => [1, 2].getD zk 0) (fun zk => [3, 4].getD zk 0) (fun zk => [15, 16].getD zk 0) (fun zk => [w.heap.size, w.heap.size + 1].getD zk 0) (fun zk => [64, 64].getD zk 0) (fun zk => [(f), (h)].getD zk (fun _ => 0)) (fun zk => [(fun _ => 0), (fun _ => 0)].getD zk (fun _ => 0)) (fun zk => [25, 25].getD zk 0) hb (Nat.le_refl _)
      (fun w' => Blk w' (wz1.heap.size) (u8s 64 f) 25 ∧ Blk w' (wz1.heap.size + 1) (u8s 64 h) 25 ∧ True) ⟨h6.drew, h7.drew, trivial⟩ (fun w1 w2 h hb => ⟨h.1.keep hb, h.2.1.keep hb, trivial⟩) ?_ ?_ ?_ ?_ ?_ ?_ ?_
  · intro k hk w1 cs h
    rcases k with _|_|k
    · exact ⟨h.1.setRow_other (by simp only [List.getD_cons_zero, List.getD_cons_succ] <;> omega), h.2.1.setRow_other (by simp only [List.getD_cons_zero, List.getD_cons_succ] <;> omega), trivial⟩
    · exact ⟨h.1.setRow_other (by simp only [List.getD_cons_zero, List.getD_cons_succ] <;> omega), h.2.1.setRow_other (by simp only [List.getD_cons_zero, List.getD_cons_succ] <;> omega), trivial⟩
    · omega
  · intro i v w1 w2 h hb
    rcases i with _|_|_|_|_|_|i
    · exact h
    · exact h
    · exact h
    · exact h
    · exact h
    · exact h
    · exact h
  · intro k hk
    rcases k with _|_|k
    · kernel_rfl
    · kernel_rfl
    · omega
  · intro k hk
    rcases k with _|_|k
    · refine ⟨?_, (by kernel_rfl), hZ3, fun v w' h => h, by decide, ?_⟩
      · simp only [List.getD_cons_zero, List.getD_cons_succ] <;> omega
      · intro k' hk' hne
        rcases k' with _|_|k'
        all_goals first | omega | exact absurd rfl hne | (refine ⟨?_, by decide⟩; simp only [List.getD_cons_zero, List.getD_cons_succ]; omega)
    · refine ⟨?_, (by kernel_rfl), hZ4, fun v w' h => h, by decide, ?_⟩
      · simp only [List.getD_cons_zero, List.getD_cons_succ] <;> omega
      · intro k' hk' hne
        rcases k' with _|_|k'
        all_goals first | omega | exact absurd rfl hne | (refine ⟨?_, by decide⟩; simp only [List.getD_cons_zero, List.getD_cons_succ]; omega)
    · omega
  · kernel_rfl
  · intro i o ho hz a w2 hBs hSx hBl hrd hpar
    rcases i with _|_|_|_|_|_|i
    · obtain rfl := Option.some.inj ho
      have e5 : a.eval (.tmp 5) = .int .i64 p := hpar 5 _ (by kernel_rfl) (by kernel_rfl)
      exact wpv_of (wp_move _ _ rfl e5) (fun _ _ => rfl)
    · obtain rfl := Option.some.inj ho
      exact wpv_of (wp_loadB 25 _ rfl _ (hpar 6 (.pointer (some ⟨wz1.heap.size, 0, none⟩)) (by kernel_rfl) (by kernel_rfl)) _ _ hSx.1 _ _ uPoly sPoly) (fun _ _ => rfl)
    · obtain rfl := Option.some.inj ho
      exact wpv_of (wp_loadB 25 _ rfl _ (hpar 7 (.pointer (some ⟨wz1.heap.size + 1, 0, none⟩)) (by kernel_rfl) (by kernel_rfl)) _ _ hSx.2.1 _ _ uPoly sPoly) (fun _ _ => rfl)
    · obtain rfl := Option.some.inj ho
      obtain ⟨_, e14⟩ : ∃ _w : World, a.eval (.tmp 14) = .int .i64 p := (hrd 0 _ 14 rfl rfl (by kernel_rfl) (by kernel_rfl) (by decide)).1
      exact wpv_of (wp_assign _ _ rfl e14) (fun _ _ => rfl)
    · exact absurd rfl (hz 0 (by decide))
    · exact absurd rfl (hz 1 (by decide))
    · simp at ho
  intro vals xE hBx hSx hS0 hcs hrs
  obtain ⟨_, e0⟩ : ∃ _w : World, vals 0 = .int .i64 p := hcs 0 (by simp) (by decide)
  obtain ⟨_, e1⟩ : ∃ _w : World, vals 1 = .agg (u8s 64 f) := hcs 1 (by simp) (by decide)
  obtain ⟨_, e2⟩ : ∃ _w : World, vals 2 = .agg (u8s 64 h) := hcs 2 (by simp) (by decide)
  obtain ⟨_, e3⟩ : ∃ _w : World, vals 3 = .int .i64 p := hcs 3 (by simp) (by decide)
  have hsE0 : Blk xE (w.heap.size) (u8s 64 (f)) 25 := hrs 0 (by decide)
  have hsE1 : Blk xE (w.heap.size + 1) (u8s 64 (h)) 25 := hrs 1 (by decide)
  simp only [List.length_cons, List.length_nil, Nat.zero_add, Nat.reduceAdd, List.replicate, putAll, if_true, Act.put, List.setIfInBounds_toArray, List.set_cons_zero, List.set_cons_succ, e0, e1, e2, e3]
  replace h6 := hSx.1
  replace h7 := hSx.2.1
  clear hcs hrs hS0 hSx e0 e1 e2 e3
  go_wp2_with fail
  exact bodyPost_ret (res_tcc (x := .int .i64 p) rfl rfl hsE0 uPoly sPoly rfl hsE1 uPoly sPoly rfl) rfl ⟨_, _, _, rfl, hp0, hp1, hfH.out, hhH.out, hBx⟩
set_option maxRecDepth 20000 in
set_option maxHeartbeats 4000000 in
theorem DrawRootsOf_any (oa : Option Addr) (n c : Nat) (w : World) (hnm : n ≤ maxLen) (hc : CodeAt w oa n) :
    Calls Try.prog 12 #[.slice oa n c] w fun e w' => ∃ p f, e = .returned (.tuple #[.int .i64 p, .agg (u8s 64 f)]) ∧ -3 ≤ p ∧ p ≤ 11 ∧ By f ∧ Below w.heap.size w w' := by
  have hb := below_new w (.cells (u8s 64 fun _ => 0) 25)
  have hZ3 := Blk.new w (u8s 64 fun _ => 0) 25
  have hF := Lib.hid (l01From_any oa n c _ hnm (hc.below hb))
  clear hc hnm
  go_enter Try.func12, Try.ntmps12
  go_wp2_with ((with_reducible refine wpl_guard ?_); first | (refine wpl_alloc_arr rfl 25 rfl _ zPoly ?_))
  refine hF.out.mono ?_
  rintro e wz1 ⟨g, rfl, hS1, hn⟩
  have hge := hS1.ge
  rw [size_alloc] at hge
  replace hZ3 := hZ3.keep hn
  replace hb := below_step hb hn
  have hSp := Lib.hid (l01Spoil_any _ g wz1 hS1)
  clear hF hn
  go_wp2_with fail
  refine hSp.out.mono ?_
  rintro e wz2 ⟨p, f, rfl, hp0, hp1, hf, hS2, hg2⟩
  replace hZ3 := hZ3.grownR hg2 (fun e => by injection e with e; omega)
  replace hb := below_then hb hg2 (fun k e => by injection e with e; omega)
  have h6 := Blk.new wz2 (u8s 64 f) 25
  have hn2 := below_new wz2 (.cells (u8s 64 f) 25)
  have hlo := hZ3.lt
  replace hZ3 := hZ3.keep hn2
  replace hb := below_step hb hn2
  have hfH := Lib.hid hf
  clear hn2 hSp hS1 hS2 hg2 hf
  go_upto_region 2 with ((with_reducible refine wpl_guard ?_); first | (refine wpl_alloc_arr rfl 25 rfl _ zPoly ?_) | (refine wpl_store_new rfl 25 _ _ rfl _ rfl rfl _ rfl sPoly (by simp only [u8s_size]) (u8s_oneCell _ _) ?_))
  refine gen_region (ws := w) (w := _) (B := w.heap.size) (by kernel_rfl) (by kernel_rfl) (by kernel_rfl) (by kernel_rfl)
      (fun i => ([fun zv _ => zv = .int .i64 p, fun zv _ => zv = .agg (u8s 64 f), fun zv _ => zv = .int .i64 p, fun _ _ => True] : List (Value → World → Prop)).getD i (fun _ _ => True))
      (fun i => ([true, true, true, true] : List Bool).getD i true)
      1 (fun zk => [3].getD zk 0) (fun zk => [1].getD zk 0) (fun zk => [3].getD zk 0) (fun zk => [13].getD zk 0) (fun zk => [w.heap.size].getD zk 0) (fun zk => [64].getD zk 0) (fun zk => [(f)].getD zk (fun _ => 0)) (fun zk => [(fun _ => 0)].getD zk (fun _ => 0)) (fun zk => [25].getD zk 0) hb (Nat.le_refl _)
      (fun w' => Blk w' (wz2.heap.size) (u8s 64 f) 25 ∧ True) ⟨h6.drew, trivial⟩ (fun w1 w2 h hb => ⟨h.1.keep hb, trivial⟩) ?_ ?_ ?_ ?_ ?_ ?_ ?_
  · intro k hk w1 cs h
    rcases k with _|k
    · exact ⟨h.1.setRow_other (by simp only [List.getD_cons_zero, List.getD_cons_succ] <;> omega), trivial⟩
    · omega
  · intro i v w1 w2 h hb
    rcases i with _|_|_|_|i
    · exact h
    · exact h
    · exact h
    · exact h
    · exact h
  · intro k hk
    rcases k with _|k
    · kernel_rfl
    · omega
  · intro k hk
    rcases k with _|k
    · refine ⟨?_, (by kernel_rfl), hZ3, fun v w' h => h, by decide, ?_⟩
      · simp only [List.getD_cons_zero, List.getD_cons_succ] <;> omega
      · intro k' hk' hne
        rcases k' with _|k'
        all_goals first | omega | exact absurd rfl hne | (refine ⟨?_, by decide⟩; simp only [List.getD_cons_zero, List.getD_cons_succ]; omega)
    · omega
  · kernel_rfl
  · intro i o ho hz a w2 hBs hSx hBl hrd hpar
    rcases i with _|_|_|_|i
    · obtain rfl := Option.some.inj ho
      have e4 : a.eval (.tmp 4) = .int .i64 p := hpar 4 _ (by kernel_rfl) (by kernel_rfl)
      exact wpv_of (wp_move _ _ rfl e4) (fun _ _ => rfl)
    · obtain rfl := Option.some.inj ho
      exact wpv_of (wp_loadB 25 _ rfl _ (hpar 5 (.pointer (some ⟨wz2.heap.size, 0, none⟩)) (by kernel_rfl) (by kernel_rfl)) _ _ hSx.1 _ _ uPoly sPoly) (fun _ _ => rfl)
    · obtain rfl := Option.some.inj ho
      obtain ⟨_, e12⟩ : ∃ _w : World, a.eval (.tmp 12) = .int .i64 p := (hrd 0 _ 12 rfl rfl (by kernel_rfl) (by kernel_rfl) (by decide)).1
      exact wpv_of (wp_assign _ _ rfl e12) (fun _ _ => rfl)
    · exact absurd rfl (hz 0 (by decide))
    · simp at ho
  intro vals xE hBx hSx hS0 hcs hrs
  obtain ⟨_, e0⟩ : ∃ _w : World, vals 0 = .int .i64 p := hcs 0 (by simp) (by decide)
  obtain ⟨_, e1⟩ : ∃ _w : World, vals 1 = .agg (u8s 64 f) := hcs 1 (by simp) (by decide)
  obtain ⟨_, e2⟩ : ∃ _w : World, vals 2 = .int .i64 p := hcs 2 (by simp) (by decide)
  have hsE0 : Blk xE (w.heap.size) (u8s 64 (f)) 25 := hrs 0 (by decide)
  simp only [List.length_cons, List.length_nil, Nat.zero_add, Nat.reduceAdd, List.replicate, putAll, if_true, Act.put, List.setIfInBounds_toArray, List.set_cons_zero, List.set_cons_succ, e0, e1, e2]
  replace h6 := hSx.1
  clear hcs hrs hS0 hSx e0 e1 e2
  go_wp2_with fail
  exact bodyPost_ret (res_tc (x := .int .i64 p) rfl rfl hsE0 uPoly sPoly rfl) rfl ⟨_, _, rfl, hp0, hp1, hfH.out, hBx⟩
set_option maxRecDepth 20000 in
set_option maxHeartbeats 4000000 in
theorem DrawDerivativeOf_any (oa : Option Addr) (n c : Nat) (w : World) (hnm : n ≤ maxLen) (hc : CodeAt w oa n) :
    Calls Try.prog 19 #[.slice oa n c] w fun e w' => ∃ p f, e = .returned (.tuple #[.int .i64 p, .agg (u8s 64 f)]) ∧ -3 ≤ p ∧ p ≤ 11 ∧ By f ∧ Below w.heap.size w w' := by
  have hb := below_new w (.cells (u8s 64 fun _ => 0) 25)
  have hZ3 := Blk.new w (u8s 64 fun _ => 0) 25
  have hF := Lib.hid (l01From_any oa n c _ hnm (hc.below hb))
  clear hc hnm
  go_enter Try.func19, Try.ntmps19
  go_wp2_with ((with_reducible refine wpl_guard ?_); first | (refine wpl_alloc_arr rfl 25 rfl _ zPoly ?_))
  refine hF.out.mono ?_
  rintro e wz1 ⟨g, rfl, hS1, hn⟩
  have hge := hS1.ge
  rw [size_alloc] at hge
  replace hZ3 := hZ3.keep hn
  replace hb := below_step hb hn
  have hSp := Lib.hid (l01Spoil_any _ g wz1 hS1)
  clear hF hn
  go_wp2_with fail
  refine hSp.out.mono ?_
  rintro e wz2 ⟨p, f, rfl, hp0, hp1, hf, hS2, hg2⟩
  replace hZ3 := hZ3.grownR hg2 (fun e => by injection e with e; omega)
  replace hb := below_then hb hg2 (fun k e => by injection e with e; omega)
  have h6 := Blk.new wz2 (u8s 64 f) 25
  have hn2 := below_new wz2 (.cells (u8s 64 f) 25)
  have hlo := hZ3.lt
  replace hZ3 := hZ3.keep hn2
  replace hb := below_step hb hn2
  have hfH := Lib.hid hf
  clear hn2 hSp hS1 hS2 hg2 hf
  go_upto_region 2 with ((with_reducible refine wpl_guard ?_); first | (refine wpl_alloc_arr rfl 25 rfl _ zPoly ?_) | (refine wpl_store_new rfl 25 _ _ rfl _ rfl rfl _ rfl sPoly (by simp only [u8s_size]) (u8s_oneCell _ _) ?_))
  refine gen_region (ws := w) (w := _) (B := w.heap.size) (by kernel_rfl) (by kernel_rfl) (by kernel_rfl) (by kernel_rfl)
      (fun i => ([fun zv _ => zv = .int .i64 p, fun zv _ => zv = .agg (u8s 64 f), fun zv _ => zv = .int .i64 p, fun _ _ => True] : List (Value → World → Prop)).getD i (fun _ _ => True))
      (fun i => ([true, true, true, true] : List Bool).getD i true)
      1 (fun zk => [3].getD zk 0) (fun zk => [1].getD zk 0) (fun zk => [3].getD zk 0) (fun zk => [13].getD zk 0) (fun zk => [w.heap.size].getD zk 0) (fun zk => [64].getD zk 0) (fun zk => [(f)].getD zk (fun _ => 0)) (fun zk => [(fun _ => 0)].getD zk (fun _ => 0)) (fun zk => [25].getD zk 0) hb (Nat.le_refl _)
      (fun w' => Blk w' (wz2.heap.size) (u8s 64 f) 25 ∧ True) ⟨h6.drew, trivial⟩ (fun w1 w2 h hb => ⟨h.1.keep hb, trivial⟩) ?_ ?_ ?_ ?_ ?_ ?_ ?_
  · intro k hk w1 cs h
    rcases k with _|k
    · exact ⟨h.1.setRow_other (by simp only [List.getD_cons_zero, List.getD_cons_succ] <;> omega), trivial⟩
    · omega
  · intro i v w1 w2 h hb
    rcases i with _|_|_|_|i
    · exact h
    · exact h
    · exact h
    · exact h
    · exact h
  · intro k hk
    rcases k with _|k
    · kernel_rfl
    · omega
  · intro k hk
    rcases k with _|k
    · refine ⟨?_, (by kernel_rfl), hZ3, fun v w' h => h, by decide, ?_⟩
      · simp only [List.getD_cons_zero, List.getD_cons_succ] <;> omega
      · intro k' hk' hne
        rcases k' with _|k'
        all_goals first | omega | exact absurd rfl hne | (refine ⟨?_, by decide⟩; simp only [List.getD_cons_zero, List.getD_cons_succ]; omega)
    · omega
  · kernel_rfl
  · intro i o ho hz a w2 hBs hSx hBl hrd hpar
    rcases i with _|_|_|_|i
    · obtain rfl := Option.some.inj ho
      have e4 : a.eval (.tmp 4) = .int .i64 p := hpar 4 _ (by kernel_rfl) (by kernel_rfl)
      exact wpv_of (wp_move _ _ rfl e4) (fun _ _ => rfl)
    · obtain rfl := Option.some.inj ho
      exact wpv_of (wp_loadB 25 _ rfl _ (hpar 5 (.pointer (some ⟨wz2.heap.size, 0, none⟩)) (by kernel_rfl) (by kernel_rfl)) _ _ hSx.1 _ _ uPoly sPoly) (fun _ _ => rfl)
    · obtain rfl := Option.some.inj ho
      obtain ⟨_, e12⟩ : ∃ _w : World, a.eval (.tmp 12) = .int .i64 p := (hrd 0 _ 12 rfl rfl (by kernel_rfl) (by kernel_rfl) (by decide)).1
      exact wpv_of (wp_assign _ _ rfl e12) (fun _ _ => rfl)
    · exact absurd rfl (hz 0 (by decide))
    · simp at ho
  intro vals xE hBx hSx hS0 hcs hrs
  obtain ⟨_, e0⟩ : ∃ _w : World, vals 0 = .int .i64 p := hcs 0 (by simp) (by decide)
  obtain ⟨_, e1⟩ : ∃ _w : World, vals 1 = .agg (u8s 64 f) := hcs 1 (by simp) (by decide)
  obtain ⟨_, e2⟩ : ∃ _w : World, vals 2 = .int .i64 p := hcs 2 (by simp) (by decide)
  have hsE0 : Blk xE (w.heap.size) (u8s 64 (f)) 25 := hrs 0 (by decide)
  simp only [List.length_cons, List.length_nil, Nat.zero_add, Nat.reduceAdd, List.replicate, putAll, if_true, Act.put, List.setIfInBounds_toArray, List.set_cons_zero, List.set_cons_succ, e0, e1, e2]
  replace h6 := hSx.1
  clear hcs hrs hS0 hSx e0 e1 e2
  go_wp2_with fail
  exact bodyPost_ret (res_tc (x := .int .i64 p) rfl rfl hsE0 uPoly sPoly rfl) rfl ⟨_, _, rfl, hp0, hp1, hfH.out, hBx⟩
end Go.Proofs.Ytddgbnkojdmekaa

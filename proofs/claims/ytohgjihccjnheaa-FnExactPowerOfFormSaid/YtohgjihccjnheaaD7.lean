/- Walks: equality of forms; inverses. -/
import Derived.Test.YtohgjihccjnheaaD6
set_option linter.unusedVariables false
set_option linter.unusedSimpArgs false
namespace Go.Proofs.Ytohgjihccjnheaa
open Go.RowKit

set_option maxRecDepth 20000 in
set_option maxHeartbeats 2000000 in
theorem eqForm_same (F : Nat → Int) (w : World)  :
    Calls Try.prog 17 #[.agg (u8s 128 F), .agg (u8s 128 F)] w fun e w' => e = .returned (.bool true) ∧ Below w.heap.size w w' := by
  rw [fmF_self F]
  generalize (fun j => F (64 + j)) = g
  obtain ⟨hb, hA, hB⟩ := boxes2 w (u8s 128 (fmF F g)) (u8s 128 (fmF F g)) 31 31
  go_enter Try.func17, Try.ntmps17
  go_wp2_with ((with_reducible refine wpl_guard ?_); first | (refine wpl_load_A rfl 24 _ rfl _ rfl 5 _ _ _ hA uPoly sPoly ?_) | (refine wpl_load_A rfl 24 _ rfl _ rfl 5 _ _ _ hB uPoly sPoly ?_))
  refine (eqPoly_same F _).mono ?_
  rintro e u1 ⟨rfl, hn⟩
  replace hA := hA.keep hn
  replace hB := hB.keep hn
  replace hb := below_step hb hn
  clear hn
  go_wp2_with ((with_reducible refine wpl_guard ?_); first | (refine wpl_load_B rfl 24 _ rfl _ rfl 5 _ _ _ hA uPoly sPoly ?_) | (refine wpl_load_B rfl 24 _ rfl _ rfl 5 _ _ _ hB uPoly sPoly ?_))
  refine (eqPoly_same g _).mono ?_
  rintro e u2 ⟨rfl, hn⟩
  replace hA := hA.keep hn
  replace hB := hB.keep hn
  replace hb := below_step hb hn
  clear hn
  go_wp2_with fail
  go_ret
  exact ⟨rfl, hb⟩

/-- The other one. -/
def opp (p : Int) (xs ys : List Int) : List Int := rst p (addp p [] ys (-1)) xs
theorem opp_P64 {p : Int} {xs ys : List Int} (hx : P64 p xs) (hy : P64 p ys) (hne : xs ≠ []) : P64 p (opp p xs ys) := rst_P64 (P64.addp (P64.nil hx.pr) hy (-1)) hx hne

set_option maxRecDepth 20000 in
set_option maxHeartbeats 2000000 in
theorem l07Opposite_any (p : Int) (ys xs : List Int) (w : World) (hy : P64 p ys) (hx : P64 p xs) (hne : xs ≠ []) :
    Calls Try.prog 37 #[.int .i64 p, .agg (u8s 64 (cf ys)), .agg (u8s 64 (cf xs))] w fun e w' => e = .returned (.agg (u8s 64 (cf (opp p xs ys)))) ∧ Below w.heap.size w w' := by
  have r1 := Lib.hid (fun w => l01Add_zero ys p (-1) w hy (by decide) (by decide))
  have r2 := fun w => l01Mod_any (addp p [] ys (-1)) xs p w (P64.addp (P64.nil hx.pr) hy (-1)) hx hne
  rw [show rst p (addp p [] ys (-1)) xs = opp p xs ys from rfl] at r2
  have r2H := Lib.hid r2
  clear r2 hx hy hne
  obtain ⟨hb, hA, hB, hZ⟩ := boxes3 w (u8s 64 (cf ys)) (u8s 64 (cf xs)) (u8s 64 fun _ => 0) 24 24 24
  go_enter Try.func37, Try.ntmps37
  go_upto_region 1 with ((with_reducible refine wpl_guard ?_); first | (refine wpl_alloc_arr rfl 24 rfl _ zPoly ?_))
  simp only [size_alloc]
  go_upto_region 1 with (fail)
  refine gen_region (ws := w) (w := _) (B := w.heap.size) (by kernel_rfl) (by kernel_rfl) (by kernel_rfl) (by kernel_rfl)
      (fun i => ([fun zv _ => zv = .int .i64 p, fun zv _ => zv = .int .i64 p, fun zv _ => zv = .agg (u8s 64 fun _ => 0), fun zv _ => zv = .agg (u8s 64 (cf ys)), fun zv _ => zv = .agg (u8s 64 (cf (addp p [] ys (-1)))), fun zv _ => zv = .agg (u8s 64 (cf xs)), fun zv _ => zv = .agg (u8s 64 (cf (opp p xs ys))), fun _ _ => True] : List (Value → World → Prop)).getD i (fun _ _ => True))
      (fun i => ([true, true, true, true, false, true, false, true] : List Bool).getD i true)
      1 (fun zk => [7].getD zk 0) (fun zk => [6].getD zk 0) (fun zk => [6].getD zk 0) (fun zk => [13].getD zk 0) (fun zk => [w.heap.size + 1 + 1].getD zk 0) (fun zk => [64].getD zk 0) (fun zk => [(cf (opp p xs ys))].getD zk (fun _ => 0)) (fun zk => [(fun _ => 0)].getD zk (fun _ => 0)) (fun zk => [24].getD zk 0) hb (Nat.le_refl _)
      (fun w' => Blk w' (w.heap.size) (u8s 64 (cf ys)) 24 ∧ Blk w' (w.heap.size + 1) (u8s 64 (cf xs)) 24 ∧ True) ⟨hA.drew, hB.drew, trivial⟩ (fun w1 w2 h hb => ⟨h.1.keep hb, h.2.1.keep hb, trivial⟩) ?_ ?_ ?_ ?_ ?_ ?_ ?_
  · intro k hk w1 cs h
    rcases k with _|k
    · exact ⟨h.1.setRow_other (by simp only [List.getD_cons_zero, List.getD_cons_succ] <;> omega), h.2.1.setRow_other (by simp only [List.getD_cons_zero, List.getD_cons_succ] <;> omega), trivial⟩
    · omega
  · intro i v w1 w2 h hb
    rcases i with _|_|_|_|_|_|_|_|i
    · exact h
    · exact h
    · exact h
    · exact h
    · exact h
    · exact h
    · exact h
    · exact h
    · exact h
  · intro k hk
    rcases k with _|k
    · kernel_rfl
    · omega
  · intro k hk
    rcases k with _|k
    · refine ⟨?_, (by kernel_rfl), hZ, fun v w' h => h, by decide, ?_⟩
      · simp only [List.getD_cons_zero, List.getD_cons_succ] <;> omega
      · intro k' hk' hne
        rcases k' with _|k'
        all_goals first | omega | exact absurd rfl hne | (refine ⟨?_, by decide⟩; simp only [List.getD_cons_zero, List.getD_cons_succ]; omega)
    · omega
  · kernel_rfl
  · intro i o ho hz a w2 hBs hSx hBl hrd hpar
    rcases i with _|_|_|_|_|_|_|_|i
    · obtain rfl := Option.some.inj ho
      have e0 : a.eval (.tmp 0) = .int .i64 p := hpar 0 _ (by kernel_rfl) (by kernel_rfl)
      exact wpv_of (wp_move _ _ rfl e0) (fun _ _ => rfl)
    · obtain rfl := Option.some.inj ho
      have e0 : a.eval (.tmp 0) = .int .i64 p := hpar 0 _ (by kernel_rfl) (by kernel_rfl)
      exact wpv_of (wp_move _ _ rfl e0) (fun _ _ => rfl)
    · obtain rfl := Option.some.inj ho
      exact wpv_of (wp_build_zeroB 24 64 5 rfl uPoly sByte zPoly) (fun _ _ => rfl)
    · obtain rfl := Option.some.inj ho
      exact wpv_of (wp_loadB 24 _ rfl _ (hpar 4 (.pointer (some ⟨w.heap.size, 0, none⟩)) (by kernel_rfl) (by kernel_rfl)) _ _ hSx.1 _ _ uPoly sPoly) (fun _ _ => rfl)
    · obtain rfl := Option.some.inj ho
      obtain ⟨_, e8⟩ : ∃ _w : World, a.eval (.tmp 8) = .int .i64 p := (hrd 1 _ 8 rfl rfl (by kernel_rfl) (by kernel_rfl) (by decide)).1
      obtain ⟨_, e9⟩ : ∃ _w : World, a.eval (.tmp 9) = .agg (u8s 64 fun _ => 0) := (hrd 2 _ 9 rfl rfl (by kernel_rfl) (by kernel_rfl) (by decide)).1
      obtain ⟨_, e10⟩ : ∃ _w : World, a.eval (.tmp 10) = .agg (u8s 64 (cf ys)) := (hrd 3 _ 10 rfl rfl (by kernel_rfl) (by kernel_rfl) (by decide)).1
      exact wpv_call 68 [.tmp 8, .tmp 9, .tmp 10, .const (.int .i64 (-1))] _ rfl [.int .i64 p, .agg (u8s 64 fun _ => 0), .agg (u8s 64 (cf ys)), .int .i64 (-1)] (by simp only [List.map_cons, List.map_nil, e8, e9, e10, eval_const]) Try.call68 ((r1.out w2).mono fun _ _ ⟨h1, h2⟩ => ⟨_, h1, rfl, h2⟩)
    · obtain rfl := Option.some.inj ho
      exact wpv_of (wp_loadB 24 _ rfl _ (hpar 5 (.pointer (some ⟨w.heap.size + 1, 0, none⟩)) (by kernel_rfl) (by kernel_rfl)) _ _ hSx.2.1 _ _ uPoly sPoly) (fun _ _ => rfl)
    · obtain rfl := Option.some.inj ho
      obtain ⟨_, e7⟩ : ∃ _w : World, a.eval (.tmp 7) = .int .i64 p := (hrd 0 _ 7 rfl rfl (by kernel_rfl) (by kernel_rfl) (by decide)).1
      obtain ⟨_, e11⟩ : ∃ _w : World, a.eval (.tmp 11) = .agg (u8s 64 (cf (addp p [] ys (-1)))) := (hrd 4 _ 11 rfl rfl (by kernel_rfl) (by kernel_rfl) (by decide)).1
      obtain ⟨_, e12⟩ : ∃ _w : World, a.eval (.tmp 12) = .agg (u8s 64 (cf xs)) := (hrd 5 _ 12 rfl rfl (by kernel_rfl) (by kernel_rfl) (by decide)).1
      exact wpv_call 59 [.tmp 7, .tmp 11, .tmp 12] _ rfl [.int .i64 p, .agg (u8s 64 (cf (addp p [] ys (-1)))), .agg (u8s 64 (cf xs))] (by simp only [List.map_cons, List.map_nil, e7, e11, e12]) Try.call59 ((r2H.out w2).mono fun _ _ ⟨h1, h2⟩ => ⟨_, h1, rfl, h2⟩)
    · exact absurd rfl (hz 0 (by decide))
    · simp at ho
  intro vals xE hBx hSx hS0 hcs hrs
  obtain ⟨_, e0⟩ : ∃ _w : World, vals 0 = .int .i64 p := hcs 0 (by simp) (by decide)
  obtain ⟨_, e1⟩ : ∃ _w : World, vals 1 = .int .i64 p := hcs 1 (by simp) (by decide)
  obtain ⟨_, e2⟩ : ∃ _w : World, vals 2 = .agg (u8s 64 fun _ => 0) := hcs 2 (by simp) (by decide)
  obtain ⟨_, e3⟩ : ∃ _w : World, vals 3 = .agg (u8s 64 (cf ys)) := hcs 3 (by simp) (by decide)
  obtain ⟨_, e4⟩ : ∃ _w : World, vals 4 = .agg (u8s 64 (cf (addp p [] ys (-1)))) := hcs 4 (by simp) (by decide)
  obtain ⟨_, e5⟩ : ∃ _w : World, vals 5 = .agg (u8s 64 (cf xs)) := hcs 5 (by simp) (by decide)
  obtain ⟨_, e6⟩ : ∃ _w : World, vals 6 = .agg (u8s 64 (cf (opp p xs ys))) := hcs 6 (by simp) (by decide)
  have hsE0 : Blk xE (w.heap.size + 1 + 1) (u8s 64 (cf (opp p xs ys))) 24 := hrs 0 (by decide)
  simp only [List.length_cons, List.length_nil, Nat.zero_add, Nat.reduceAdd, List.replicate, putAll, if_true, Act.put, List.setIfInBounds_toArray, List.set_cons_zero, List.set_cons_succ, e0, e1, e2, e3, e4, e5, e6]
  replace hA := hSx.1
  replace hB := hSx.2.1
  clear hcs hrs hS0 hSx e0 e1 e2 e3 e4 e5 e6
  go_wp2_with fail
  exact bodyPost_ret (res_c rfl rfl hsE0 uPoly sPoly) rfl ⟨rfl, hBx⟩

set_option maxRecDepth 20000 in
set_option maxHeartbeats 2000000 in
theorem toldF_any (va vb : Value) (p : Int) (xs ys : List Int) (w : World) (ha : IsRow w va xs) (hb : IsRow w vb ys) (hx : P64 p xs) (hy : P64 p ys) :
    Calls Try.prog 40 #[.agg #[va, vb]] w fun e w' => e = .returned (.agg (u8s 128 (fmF (cf xs) (cf ys)))) ∧ Below w.heap.size w w' := by
  have haH := Lib.hid ha
  have hbH := Lib.hid hb
  have r1 := Lib.hid (fun w (h : IsRow w va xs) => poly_any va xs w h hx.by hx.le)
  have r2 := Lib.hid (fun w (h : IsRow w vb ys) => poly_any vb ys w h hy.by hy.le)
  clear ha hb hx hy
  obtain ⟨hb, hA, hZ⟩ := boxes2 w #[va, vb] (u8s 128 fun _ => 0) 55 31
  have hB0 := hb
  go_enter Try.func40, Try.ntmps40
  go_upto_region 1 with ((with_reducible refine wpl_guard ?_); first | (refine wpl_alloc_arr rfl 31 rfl _ zForm ?_))
  simp only [size_alloc]
  go_upto_region 1 with (fail)
  refine gen_last (w := _) (by kernel_rfl) (by kernel_rfl) (by kernel_rfl) 7 (by kernel_rfl)
      (fun i => ([fun zv _ => zv = .pointer (some ⟨w.heap.size, 0 + 0, none⟩), fun zv _ => zv = va, fun zv _ => zv = .agg (u8s 64 (cf xs)), fun zv _ => zv = .pointer (some ⟨w.heap.size, 0 + 1, none⟩), fun zv _ => zv = vb, fun zv _ => zv = .agg (u8s 64 (cf ys)), fun zv _ => zv = .agg (u8s 128 (fmF (cf xs) (cf ys))), fun _ _ => True] : List (Value → World → Prop)).getD i (fun _ _ => True))
      (fun w' => Blk w' (w.heap.size) (#[va, vb]) 55 ∧ Blk w' (w.heap.size + 1) (u8s 128 fun _ => 0) 31 ∧ True) ⟨hA.drew, hZ.drew, trivial⟩ (fun w1 w2 h hb => ⟨h.1.keep hb, h.2.1.keep hb, trivial⟩) ?_ ?_ ?_
  · intro i v w1 w2 h hb
    rcases i with _|_|_|_|_|_|_|_|i
    · exact h
    · exact h
    · exact h
    · exact h
    · exact h
    · exact h
    · exact h
    · exact h
    · exact h
  · intro i o ho hiZ a w2 hBl hSx hrd hpar
    rcases i with _|_|_|_|_|_|_|_|i
    · obtain rfl := Option.some.inj ho
      refine .inl ⟨rfl, ?_⟩
      exact wpv_of (wp_fieldB 55 _ 0 rfl 0 1 fform0 (w.heap.size) 0 (hpar 1 _ (by kernel_rfl) (by kernel_rfl))) (fun _ _ => rfl)
    · obtain rfl := Option.some.inj ho
      refine .inl ⟨rfl, ?_⟩
      have e3 : a.eval (.tmp 3) = .pointer (some ⟨w.heap.size, 0 + 0, none⟩) := hrd 0 _ 3 rfl rfl (by kernel_rfl) (by kernel_rfl)
      exact wpv_of (wp_load_slice 42 2 _ rfl _ e3 uRowT _ (by rw [hSx.1.cell]; rfl)) (fun _ _ => rfl)
    · obtain rfl := Option.some.inj ho
      refine .inl ⟨rfl, ?_⟩
      have e4 : a.eval (.tmp 4) = va := hrd 1 _ 4 rfl rfl (by kernel_rfl) (by kernel_rfl)
      exact wpv_call 74 [.tmp 4] _ rfl [va] (by simp only [List.map_cons, List.map_nil, e4]) Try.call74 ((r1.out w2 (haH.out.below (hB0.trans (hBl.mono hB0.size)))).mono fun _ _ ⟨h1, h2⟩ => ⟨_, h1, rfl, h2⟩)
    · obtain rfl := Option.some.inj ho
      refine .inl ⟨rfl, ?_⟩
      exact wpv_of (wp_fieldB 55 _ 1 rfl 1 1 fform1 (w.heap.size) 0 (hpar 1 _ (by kernel_rfl) (by kernel_rfl))) (fun _ _ => rfl)
    · obtain rfl := Option.some.inj ho
      refine .inl ⟨rfl, ?_⟩
      have e6 : a.eval (.tmp 6) = .pointer (some ⟨w.heap.size, 0 + 1, none⟩) := hrd 3 _ 6 rfl rfl (by kernel_rfl) (by kernel_rfl)
      exact wpv_of (wp_load_slice 42 2 _ rfl _ e6 uRowT _ (by rw [hSx.1.cell]; rfl)) (fun _ _ => rfl)
    · obtain rfl := Option.some.inj ho
      refine .inl ⟨rfl, ?_⟩
      have e7 : a.eval (.tmp 7) = vb := hrd 4 _ 7 rfl rfl (by kernel_rfl) (by kernel_rfl)
      exact wpv_call 74 [.tmp 7] _ rfl [vb] (by simp only [List.map_cons, List.map_nil, e7]) Try.call74 ((r2.out w2 (hbH.out.below (hB0.trans (hBl.mono hB0.size)))).mono fun _ _ ⟨h1, h2⟩ => ⟨_, h1, rfl, h2⟩)
    · obtain rfl := Option.some.inj ho
      refine .inl ⟨rfl, ?_⟩
      have e5 : a.eval (.tmp 5) = .agg (u8s 64 (cf xs)) := hrd 2 _ 5 rfl rfl (by kernel_rfl) (by kernel_rfl)
      have e8 : a.eval (.tmp 8) = .agg (u8s 64 (cf ys)) := hrd 5 _ 8 rfl rfl (by kernel_rfl) (by kernel_rfl)
      exact wpv_of (wp_build_pair 31 64 64 _ lForm (by rw [u8s_size]) _ _ rfl _ _ e5 e8 (by simp only [Value.cells, u8s_size]) (by simp only [Value.cells, u8s_size]) _ (fmF_app _ _)) (fun _ _ => rfl)
    · obtain rfl := Option.some.inj ho
      exact absurd rfl hiZ
    · simp at ho
  intro oZ hoZ vals xE hBx hSx hc0
  obtain rfl := Option.some.inj hoZ
  clear hoZ
  have e0 : vals 0 = .pointer (some ⟨w.heap.size, 0 + 0, none⟩) := hc0 0 (by simp) (by decide)
  have e1 : vals 1 = va := hc0 1 (by simp) (by decide)
  have e2 : vals 2 = .agg (u8s 64 (cf xs)) := hc0 2 (by simp) (by decide)
  have e3 : vals 3 = .pointer (some ⟨w.heap.size, 0 + 1, none⟩) := hc0 3 (by simp) (by decide)
  have e4 : vals 4 = vb := hc0 4 (by simp) (by decide)
  have e5 : vals 5 = .agg (u8s 64 (cf ys)) := hc0 5 (by simp) (by decide)
  have e6 : vals 6 = .agg (u8s 128 (fmF (cf xs) (cf ys))) := hc0 6 (by simp) (by decide)
  refine ⟨rfl, ?_⟩
  simp only [List.length_cons, List.length_nil, Nat.zero_add, Nat.reduceAdd, List.replicate, seenAll, Bool.false_eq_true, if_false, putAll, if_true, Act.put, List.setIfInBounds_toArray, List.set_cons_zero, List.set_cons_succ, e0, e1, e2, e3, e4, e5, e6]
  replace hA := hSx.1
  replace hZ := hSx.2.1
  replace hb := below_step hb hBx
  clear hc0 hSx e0 e1 e2 e3 e4 e5 e6
  refine wp_store_arr 31 _ _ rfl (w.heap.size + 1) rfl _ rfl _ _ hZ sForm (by simp only [u8s_size]) (u8s_oneCell _ _) ?_
  go_wp2_with fail
  exact bodyPost_ret (res_s rfl rfl (hZ.setRow_same (cs := u8s 128 (fmF (cf xs) (cf ys)))) tForm sForm) rfl ⟨rfl, below_setRow hb (by omega) _⟩

set_option maxRecDepth 20000 in
set_option maxHeartbeats 2000000 in
theorem opposite_any (vd va vb : Value) (p : Int) (xs ys : List Int) (w : World) (ha : IsRow w va xs) (hb : IsRow w vb ys) (hx : P64 p xs) (hy : P64 p ys) (hne : xs ≠ []) :
    Calls Try.prog 39 #[.agg #[.int .i64 p, vd], .agg #[va, vb]] w fun e w' => ∃ va vb, e = .returned (.agg #[va, vb]) ∧ IsRow w' va xs ∧ IsRow w' vb (opp p xs ys) ∧ Below w.heap.size w w' := by
  have haH := Lib.hid ha
  have hbH := Lib.hid hb
  have hva := ha.slice'
  have r1 := Lib.hid (fun w (h : IsRow w vb ys) => scale_any vb ys p (-1) w hx.pr h hy.po.md (by decide) (by decide) (by have := hy.le; omega))
  have hsP := P64.addp (P64.nil hx.pr) hy (-1)
  have r2 := Lib.hid (fun v w (h : IsRow w v (addp p [] ys (-1))) (h2 : IsRow w va xs) => rest_any v va _ xs p w hx.pr h h2 hsP.po hx.po hne (by have := hsP.le; omega) (by have := hx.le; omega))
  clear ha hb hx hy hne hsP
  obtain ⟨hb, hC, hA, hZ⟩ := boxes3 w #[.int .i64 p, vd] #[va, vb] #[.slice none 0 0, .slice none 0 0] 51 55 55
  have hB0 := hb
  go_enter Try.func39, Try.ntmps39
  go_upto_region 1 with ((with_reducible refine wpl_guard ?_); first | (refine wpl_alloc_arr rfl 55 rfl _ zform ?_))
  simp only [size_alloc]
  go_upto_region 1 with (fail)
  refine gen_last (w := _) (by kernel_rfl) (by kernel_rfl) (by kernel_rfl) 13 (by kernel_rfl)
      (fun i => ([fun zv _ => zv = .pointer (some ⟨w.heap.size + 1, 0 + 0, none⟩), fun zv _ => zv = va, fun zv _ => zv = .pointer (some ⟨w.heap.size, 0 + 0, none⟩), fun zv _ => zv = .int .i64 p, fun zv _ => zv = .pointer (some ⟨w.heap.size, 0 + 0, none⟩), fun zv _ => zv = .int .i64 p, fun zv _ => zv = .pointer (some ⟨w.heap.size + 1, 0 + 1, none⟩), fun zv _ => zv = vb, fun v w => IsRow w v (addp p [] ys (-1)), fun zv _ => zv = .pointer (some ⟨w.heap.size + 1, 0 + 0, none⟩), fun zv _ => zv = va, fun v w => IsRow w v (opp p xs ys), fun v w => ∃ vc, v = .agg #[va, vc] ∧ IsRow w vc (opp p xs ys), fun _ _ => True] : List (Value → World → Prop)).getD i (fun _ _ => True))
      (fun w' => Blk w' (w.heap.size) (#[.int .i64 p, vd]) 51 ∧ Blk w' (w.heap.size + 1) (#[va, vb]) 55 ∧ Blk w' (w.heap.size + 1 + 1) (#[.slice none 0 0, .slice none 0 0]) 55 ∧ True) ⟨hC.drew, hA.drew, hZ.drew, trivial⟩ (fun w1 w2 h hb => ⟨h.1.keep hb, h.2.1.keep hb, h.2.2.1.keep hb, trivial⟩) ?_ ?_ ?_
  · intro i v w1 w2 h hb
    rcases i with _|_|_|_|_|_|_|_|_|_|_|_|_|_|i
    · exact h
    · exact h
    · exact h
    · exact h
    · exact h
    · exact h
    · exact h
    · exact h
    · exact (show IsRow w1 v (addp p [] ys (-1)) from h).below hb
    · exact h
    · exact h
    · exact (show IsRow w1 v (opp p xs ys) from h).below hb
    · obtain ⟨vc, e, h1⟩ := h; exact ⟨vc, e, h1.below hb⟩
    · exact h
    · exact h
  · intro i o ho hiZ a w2 hBl hSx hrd hpar
    rcases i with _|_|_|_|_|_|_|_|_|_|_|_|_|_|i
    · obtain rfl := Option.some.inj ho
      refine .inl ⟨rfl, ?_⟩
      exact wpv_of (wp_fieldB 55 _ 0 rfl 0 1 fform0 (w.heap.size + 1) 0 (hpar 3 _ (by kernel_rfl) (by kernel_rfl))) (fun _ _ => rfl)
    · obtain rfl := Option.some.inj ho
      refine .inl ⟨rfl, ?_⟩
      have e5 : a.eval (.tmp 5) = .pointer (some ⟨w.heap.size + 1, 0 + 0, none⟩) := hrd 0 _ 5 rfl rfl (by kernel_rfl) (by kernel_rfl)
      exact wpv_of (wp_load_slice 42 2 _ rfl _ e5 uRowT _ (by rw [hSx.2.1.cell]; rfl)) (fun _ _ => rfl)
    · obtain rfl := Option.some.inj ho
      refine .inl ⟨rfl, ?_⟩
      exact wpv_of (wp_fieldB 51 _ 0 rfl 0 1 fcurve0 (w.heap.size) 0 (hpar 2 _ (by kernel_rfl) (by kernel_rfl))) (fun _ _ => rfl)
    · obtain rfl := Option.some.inj ho
      refine .inl ⟨rfl, ?_⟩
      have e7 : a.eval (.tmp 7) = .pointer (some ⟨w.heap.size, 0 + 0, none⟩) := hrd 2 _ 7 rfl rfl (by kernel_rfl) (by kernel_rfl)
      exact wpv_of (wp_load_cell 48 _ rfl _ e7 .i64 uPrime _ (by rw [hSx.1.cell]; rfl)) (fun _ _ => rfl)
    · obtain rfl := Option.some.inj ho
      refine .inl ⟨rfl, ?_⟩
      exact wpv_of (wp_fieldB 51 _ 0 rfl 0 1 fcurve0 (w.heap.size) 0 (hpar 2 _ (by kernel_rfl) (by kernel_rfl))) (fun _ _ => rfl)
    · obtain rfl := Option.some.inj ho
      refine .inl ⟨rfl, ?_⟩
      have e9 : a.eval (.tmp 9) = .pointer (some ⟨w.heap.size, 0 + 0, none⟩) := hrd 4 _ 9 rfl rfl (by kernel_rfl) (by kernel_rfl)
      exact wpv_of (wp_load_cell 48 _ rfl _ e9 .i64 uPrime _ (by rw [hSx.1.cell]; rfl)) (fun _ _ => rfl)
    · obtain rfl := Option.some.inj ho
      refine .inl ⟨rfl, ?_⟩
      exact wpv_of (wp_fieldB 55 _ 1 rfl 1 1 fform1 (w.heap.size + 1) 0 (hpar 3 _ (by kernel_rfl) (by kernel_rfl))) (fun _ _ => rfl)
    · obtain rfl := Option.some.inj ho
      refine .inl ⟨rfl, ?_⟩
      have e11 : a.eval (.tmp 11) = .pointer (some ⟨w.heap.size + 1, 0 + 1, none⟩) := hrd 6 _ 11 rfl rfl (by kernel_rfl) (by kernel_rfl)
      exact wpv_of (wp_load_slice 42 2 _ rfl _ e11 uRowT _ (by rw [hSx.2.1.cell]; rfl)) (fun _ _ => rfl)
    · obtain rfl := Option.some.inj ho
      refine .inl ⟨rfl, ?_⟩
      have e10 : a.eval (.tmp 10) = .int .i64 p := hrd 5 _ 10 rfl rfl (by kernel_rfl) (by kernel_rfl)
      have e12 : a.eval (.tmp 12) = vb := hrd 7 _ 12 rfl rfl (by kernel_rfl) (by kernel_rfl)
      exact wpv_call 73 [.tmp 10, .tmp 12, .const (.int .i64 (-1))] _ rfl [.int .i64 p, vb, .int .i64 (-1)] (by simp only [List.map_cons, List.map_nil, e10, e12, eval_const]) Try.call73 (r1.out w2 (hbH.out.below (hB0.trans (hBl.mono hB0.size))))
    · obtain rfl := Option.some.inj ho
      refine .inl ⟨rfl, ?_⟩
      exact wpv_of (wp_fieldB 55 _ 0 rfl 0 1 fform0 (w.heap.size + 1) 0 (hpar 3 _ (by kernel_rfl) (by kernel_rfl))) (fun _ _ => rfl)
    · obtain rfl := Option.some.inj ho
      refine .inl ⟨rfl, ?_⟩
      have e14 : a.eval (.tmp 14) = .pointer (some ⟨w.heap.size + 1, 0 + 0, none⟩) := hrd 9 _ 14 rfl rfl (by kernel_rfl) (by kernel_rfl)
      exact wpv_of (wp_load_slice 42 2 _ rfl _ e14 uRowT _ (by rw [hSx.2.1.cell]; rfl)) (fun _ _ => rfl)
    · obtain rfl := Option.some.inj ho
      refine .inl ⟨rfl, ?_⟩
      have e8 : a.eval (.tmp 8) = .int .i64 p := hrd 3 _ 8 rfl rfl (by kernel_rfl) (by kernel_rfl)
      have h13 : (fun v w => IsRow w v (addp p [] ys (-1))) (a.eval (.tmp 13)) w2 := hrd 8 _ 13 rfl rfl (by kernel_rfl) (by kernel_rfl)
      generalize e13 : a.eval (.tmp 13) = v13 at h13
      have e15 : a.eval (.tmp 15) = va := hrd 10 _ 15 rfl rfl (by kernel_rfl) (by kernel_rfl)
      exact wpv_call 64 [.tmp 8, .tmp 13, .tmp 15] _ rfl [.int .i64 p, v13, va] (by simp only [List.map_cons, List.map_nil, e8, e13, e15]) Try.call64 (r2.out _ w2 h13 (haH.out.below (hB0.trans (hBl.mono hB0.size))))
    · obtain rfl := Option.some.inj ho
      refine .inl ⟨rfl, ?_⟩
      have e6 : a.eval (.tmp 6) = va := hrd 1 _ 6 rfl rfl (by kernel_rfl) (by kernel_rfl)
      have h16 : (fun v w => IsRow w v (opp p xs ys)) (a.eval (.tmp 16)) w2 := hrd 11 _ 16 rfl rfl (by kernel_rfl) (by kernel_rfl)
      generalize e16 : a.eval (.tmp 16) = v16 at h16
      obtain ⟨a1, n1, c1, rfl⟩ := hva
      obtain ⟨a2, n2, c2, rfl⟩ := h16.slice'
      exact wpv_of (wp_build_pair 55 1 1 _ lform rfl _ _ rfl _ _ e6 e16 rfl rfl _ rfl) (fun w' hb => ⟨_, rfl, h16.below hb⟩)
    · obtain rfl := Option.some.inj ho
      exact absurd rfl hiZ
    · simp at ho
  intro oZ hoZ vals xE hBx hSx hc0
  obtain rfl := Option.some.inj hoZ
  clear hoZ
  have e0 : vals 0 = .pointer (some ⟨w.heap.size + 1, 0 + 0, none⟩) := hc0 0 (by simp) (by decide)
  have e1 : vals 1 = va := hc0 1 (by simp) (by decide)
  have e2 : vals 2 = .pointer (some ⟨w.heap.size, 0 + 0, none⟩) := hc0 2 (by simp) (by decide)
  have e3 : vals 3 = .int .i64 p := hc0 3 (by simp) (by decide)
  have e4 : vals 4 = .pointer (some ⟨w.heap.size, 0 + 0, none⟩) := hc0 4 (by simp) (by decide)
  have e5 : vals 5 = .int .i64 p := hc0 5 (by simp) (by decide)
  have e6 : vals 6 = .pointer (some ⟨w.heap.size + 1, 0 + 1, none⟩) := hc0 6 (by simp) (by decide)
  have e7 : vals 7 = vb := hc0 7 (by simp) (by decide)
  have cE8 : (fun v w => IsRow w v (addp p [] ys (-1))) (vals 8) xE := hc0 8 (by simp) (by decide)
  generalize ev8 : vals 8 = uE8 at cE8
  have e9 : vals 9 = .pointer (some ⟨w.heap.size + 1, 0 + 0, none⟩) := hc0 9 (by simp) (by decide)
  have e10 : vals 10 = va := hc0 10 (by simp) (by decide)
  have cE11 : (fun v w => IsRow w v (opp p xs ys)) (vals 11) xE := hc0 11 (by simp) (by decide)
  generalize ev11 : vals 11 = uE11 at cE11
  have cE12 : (fun v w => ∃ vc, v = .agg #[va, vc] ∧ IsRow w vc (opp p xs ys)) (vals 12) xE := hc0 12 (by simp) (by decide)
  generalize ev12 : vals 12 = uE12 at cE12
  refine ⟨rfl, ?_⟩
  simp only [List.length_cons, List.length_nil, Nat.zero_add, Nat.reduceAdd, List.replicate, seenAll, Bool.false_eq_true, if_false, putAll, if_true, Act.put, List.setIfInBounds_toArray, List.set_cons_zero, List.set_cons_succ, e0, e1, e2, e3, e4, e5, e6, e7, ev8, e9, e10, ev11, ev12]
  replace hC := hSx.1
  replace hA := hSx.2.1
  replace hZ := hSx.2.2.1
  replace hb := below_step hb hBx
  clear hc0 hSx e0 e1 e2 e3 e4 e5 e6 e7 ev8 e9 e10 ev11 ev12
  obtain ⟨vc, rfl, hrc⟩ := cE12
  obtain ⟨a1, n1, c1, rfl⟩ := hva
  obtain ⟨a2, n2, c2, rfl⟩ := hrc.slice'
  have hra := haH.out.below (hB0.trans (hBx.mono hB0.size))
  have hra2 := hra.setRow hZ (two_nils _) #[.slice a1 n1 c1, .slice a2 n2 c2]
  have hrc2 := hrc.setRow hZ (two_nils _) #[.slice a1 n1 c1, .slice a2 n2 c2]
  refine wp_store_arr 55 _ _ rfl (w.heap.size + 1 + 1) rfl _ rfl _ _ hZ sform rfl (all_two rfl rfl) ?_
  go_wp2_with fail
  exact bodyPost_ret (res_s rfl rfl (hZ.setRow_same (cs := #[.slice a1 n1 c1, .slice a2 n2 c2])) tform sform) rfl ⟨_, _, rfl, hra2, hrc2, below_setRow hb (by omega) _⟩
end Go.Proofs.Ytohgjihccjnheaa

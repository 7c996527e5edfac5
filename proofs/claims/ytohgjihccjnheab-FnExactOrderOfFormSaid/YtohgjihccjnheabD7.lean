/- Walks: equality of forms; inverses. -/
import Derived.Test.YtohgjihccjnheabD6
set_option linter.unusedVariables false
set_option linter.unusedSimpArgs false
namespace Go.Proofs.Ytohgjihccjnheab
open Go.RowKit

/-- The other one. -/
def opp (p : Int) (xs ys : List Int) : List Int := rst p (addp p [] ys (-1)) xs
theorem opp_P64 {p : Int} {xs ys : List Int} (hx : P64 p xs) (hy : P64 p ys) (hne : xs ≠ []) : P64 p (opp p xs ys) := rst_P64 (P64.addp (P64.nil hx.pr) hy (-1)) hx hne

set_option maxRecDepth 20000 in
set_option maxHeartbeats 2000000 in
theorem l07Opposite_any (p : Int) (ys xs : List Int) (w : World) (hy : P64 p ys) (hx : P64 p xs) (hne : xs ≠ []) :
    Calls Try.prog 85 #[.int .i64 p, .agg (u8s 64 (cf ys)), .agg (u8s 64 (cf xs))] w fun e w' => e = .returned (.agg (u8s 64 (cf (opp p xs ys)))) ∧ Below w.heap.size w w' := by
  have r1 := Lib.hid (fun w => l01Add_zero ys p (-1) w hy (by decide) (by decide))
  have r2 := fun w => l01Mod_any (addp p [] ys (-1)) xs p w (P64.addp (P64.nil hx.pr) hy (-1)) hx hne
  rw [show rst p (addp p [] ys (-1)) xs = opp p xs ys from rfl] at r2
  have r2H := Lib.hid r2
  clear r2 hx hy hne
  obtain ⟨hb, hA, hB, hZ⟩ := boxes3 w (u8s 64 (cf ys)) (u8s 64 (cf xs)) (u8s 64 fun _ => 0) 27 27 27
  go_enter Try.func85, Try.ntmps85
  go_upto_region 1 with ((with_reducible refine wpl_guard ?_); first | (refine wpl_alloc_arr rfl 27 rfl _ zPoly ?_))
  simp only [size_alloc]
  go_upto_region 1 with (fail)
  refine gen_region (ws := w) (w := _) (B := w.heap.size) (by kernel_rfl) (by kernel_rfl) (by kernel_rfl) (by kernel_rfl)
      (fun i => ([fun zv _ => zv = .int .i64 p, fun zv _ => zv = .int .i64 p, fun zv _ => zv = .agg (u8s 64 fun _ => 0), fun zv _ => zv = .agg (u8s 64 (cf ys)), fun zv _ => zv = .agg (u8s 64 (cf (addp p [] ys (-1)))), fun zv _ => zv = .agg (u8s 64 (cf xs)), fun zv _ => zv = .agg (u8s 64 (cf (opp p xs ys))), fun _ _ => True] : List (Value → World → Prop)).getD i (fun _ _ => True))
      (fun i => ([true, true, true, true, false, true, false, true] : List Bool).getD i true)
      1 (fun zk => [7].getD zk 0) (fun zk => [6].getD zk 0) (fun zk => [6].getD zk 0) (fun zk => [13].getD zk 0) (fun zk => [w.heap.size + 1 + 1].getD zk 0) (fun zk => [64].getD zk 0) (fun zk => [(cf (opp p xs ys))].getD zk (fun _ => 0)) (fun zk => [(fun _ => 0)].getD zk (fun _ => 0)) (fun zk => [27].getD zk 0) hb (Nat.le_refl _)
      (fun w' => Blk w' (w.heap.size) (u8s 64 (cf ys)) 27 ∧ Blk w' (w.heap.size + 1) (u8s 64 (cf xs)) 27 ∧ True) ⟨hA.drew, hB.drew, trivial⟩ (fun w1 w2 h hb => ⟨h.1.keep hb, h.2.1.keep hb, trivial⟩) ?_ ?_ ?_ ?_ ?_ ?_ ?_
  · intro k hk w1 cs h
    rcases k with _|k
    · exact ⟨h.1.setRow_other (by simp only [List.getD_cons_zero, List.getD_cons_succ] <;> omega), h.2.1.setRow_other (by simp only [List.getD_cons_zero, List.getD_cons_succ] <;> omega), trivial⟩
    · omega
  · intro i v w1 w2 h hb
    rcases i with _|_|_|_|_|_|_|_|i
    · exact h
    · exact h
    · exact h
    · exact h
    · exact h
    · exact h
    · exact h
    · exact h
    · exact h
  · intro k hk
    rcases k with _|k
    · kernel_rfl
    · omega
  · intro k hk
    rcases k with _|k
    · refine ⟨?_, (by kernel_rfl), hZ, fun v w' h => h, by decide, ?_⟩
      · simp only [List.getD_cons_zero, List.getD_cons_succ] <;> omega
      · intro k' hk' hne
        rcases k' with _|k'
        all_goals first | omega | exact absurd rfl hne | (refine ⟨?_, by decide⟩; simp only [List.getD_cons_zero, List.getD_cons_succ]; omega)
    · omega
  · kernel_rfl
  · intro i o ho hz a w2 hBs hSx hBl hrd hpar
    rcases i with _|_|_|_|_|_|_|_|i
    · obtain rfl := Option.some.inj ho
      have e0 : a.eval (.tmp 0) = .int .i64 p := hpar 0 _ (by kernel_rfl) (by kernel_rfl)
      exact wpv_of (wp_move _ _ rfl e0) (fun _ _ => rfl)
    · obtain rfl := Option.some.inj ho
      have e0 : a.eval (.tmp 0) = .int .i64 p := hpar 0 _ (by kernel_rfl) (by kernel_rfl)
      exact wpv_of (wp_move _ _ rfl e0) (fun _ _ => rfl)
    · obtain rfl := Option.some.inj ho
      exact wpv_of (wp_build_zeroB 27 64 5 rfl uPoly sByte zPoly) (fun _ _ => rfl)
    · obtain rfl := Option.some.inj ho
      exact wpv_of (wp_loadB 27 _ rfl _ (hpar 4 (.pointer (some ⟨w.heap.size, 0, none⟩)) (by kernel_rfl) (by kernel_rfl)) _ _ hSx.1 _ _ uPoly sPoly) (fun _ _ => rfl)
    · obtain rfl := Option.some.inj ho
      obtain ⟨_, e8⟩ : ∃ _w : World, a.eval (.tmp 8) = .int .i64 p := (hrd 1 _ 8 rfl rfl (by kernel_rfl) (by kernel_rfl) (by decide)).1
      obtain ⟨_, e9⟩ : ∃ _w : World, a.eval (.tmp 9) = .agg (u8s 64 fun _ => 0) := (hrd 2 _ 9 rfl rfl (by kernel_rfl) (by kernel_rfl) (by decide)).1
      obtain ⟨_, e10⟩ : ∃ _w : World, a.eval (.tmp 10) = .agg (u8s 64 (cf ys)) := (hrd 3 _ 10 rfl rfl (by kernel_rfl) (by kernel_rfl) (by decide)).1
      exact wpv_call 55 [.tmp 8, .tmp 9, .tmp 10, .const (.int .i64 (-1))] _ rfl [.int .i64 p, .agg (u8s 64 fun _ => 0), .agg (u8s 64 (cf ys)), .int .i64 (-1)] (by simp only [List.map_cons, List.map_nil, e8, e9, e10, eval_const]) Try.call55 ((r1.out w2).mono fun _ _ ⟨h1, h2⟩ => ⟨_, h1, rfl, h2⟩)
    · obtain rfl := Option.some.inj ho
      exact wpv_of (wp_loadB 27 _ rfl _ (hpar 5 (.pointer (some ⟨w.heap.size + 1, 0, none⟩)) (by kernel_rfl) (by kernel_rfl)) _ _ hSx.2.1 _ _ uPoly sPoly) (fun _ _ => rfl)
    · obtain rfl := Option.some.inj ho
      obtain ⟨_, e7⟩ : ∃ _w : World, a.eval (.tmp 7) = .int .i64 p := (hrd 0 _ 7 rfl rfl (by kernel_rfl) (by kernel_rfl) (by decide)).1
      obtain ⟨_, e11⟩ : ∃ _w : World, a.eval (.tmp 11) = .agg (u8s 64 (cf (addp p [] ys (-1)))) := (hrd 4 _ 11 rfl rfl (by kernel_rfl) (by kernel_rfl) (by decide)).1
      obtain ⟨_, e12⟩ : ∃ _w : World, a.eval (.tmp 12) = .agg (u8s 64 (cf xs)) := (hrd 5 _ 12 rfl rfl (by kernel_rfl) (by kernel_rfl) (by decide)).1
      exact wpv_call 53 [.tmp 7, .tmp 11, .tmp 12] _ rfl [.int .i64 p, .agg (u8s 64 (cf (addp p [] ys (-1)))), .agg (u8s 64 (cf xs))] (by simp only [List.map_cons, List.map_nil, e7, e11, e12]) Try.call53 ((r2H.out w2).mono fun _ _ ⟨h1, h2⟩ => ⟨_, h1, rfl, h2⟩)
    · exact absurd rfl (hz 0 (by decide))
    · simp at ho
  intro vals xE hBx hSx hS0 hcs hrs
  obtain ⟨_, e0⟩ : ∃ _w : World, vals 0 = .int .i64 p := hcs 0 (by simp) (by decide)
  obtain ⟨_, e1⟩ : ∃ _w : World, vals 1 = .int .i64 p := hcs 1 (by simp) (by decide)
  obtain ⟨_, e2⟩ : ∃ _w : World, vals 2 = .agg (u8s 64 fun _ => 0) := hcs 2 (by simp) (by decide)
  obtain ⟨_, e3⟩ : ∃ _w : World, vals 3 = .agg (u8s 64 (cf ys)) := hcs 3 (by simp) (by decide)
  obtain ⟨_, e4⟩ : ∃ _w : World, vals 4 = .agg (u8s 64 (cf (addp p [] ys (-1)))) := hcs 4 (by simp) (by decide)
  obtain ⟨_, e5⟩ : ∃ _w : World, vals 5 = .agg (u8s 64 (cf xs)) := hcs 5 (by simp) (by decide)
  obtain ⟨_, e6⟩ : ∃ _w : World, vals 6 = .agg (u8s 64 (cf (opp p xs ys))) := hcs 6 (by simp) (by decide)
  have hsE0 : Blk xE (w.heap.size + 1 + 1) (u8s 64 (cf (opp p xs ys))) 27 := hrs 0 (by decide)
  simp only [List.length_cons, List.length_nil, Nat.zero_add, Nat.reduceAdd, List.replicate, putAll, if_true, Act.put, List.setIfInBounds_toArray, List.set_cons_zero, List.set_cons_succ, e0, e1, e2, e3, e4, e5, e6]
  replace hA := hSx.1
  replace hB := hSx.2.1
  clear hcs hrs hS0 hSx e0 e1 e2 e3 e4 e5 e6
  go_wp2_with fail
  exact bodyPost_ret (res_c rfl rfl hsE0 uPoly sPoly) rfl ⟨rfl, hBx⟩

end Go.Proofs.Ytohgjihccjnheab

/- Walks: the annihilator of a residue. -/
import Derived.Test.YtionaenmjndncabJ1
import Derived.Test.YtionaenmjndncabJ2
set_option linter.unusedVariables false
set_option linter.unusedSimpArgs false
namespace Go.Proofs.Ytionaenmjndncab
open Go.RowKit

section
variable {P : Program} {Q : Exit → Act → World → Prop}
theorem wpv_buildSlice_one {o : Oper} {a : Act} {w : World} (t e m : Nat) (x : Operand) (hop : o.op = .buildSlice t 1 #[(0, x)])
    (ht : P.underlying t = some (.slice e)) (hs : (P.info? e).map (·.size) = some m) (hz : (P.info? e).bind (·.zero) = some (.agg (u8s m fun _ => 0))) (hm : 0 < m) (hm2 : m ≤ 1000)
    (f : Nat → Int) (hx : a.eval x = .agg (u8s m f)) : WpV P o a w (fun v w' => ∃ g, v = .slice (some ⟨g, 0, none⟩) 1 1 ∧ Blk w' g (u8s m f) e) Q := by
  obtain ⟨inf, hinf, hsz⟩ := Option.map_eq_some_iff.1 hs
  obtain ⟨inf', hinf', hz⟩ := Option.bind_eq_some_iff.1 hz
  obtain rfl : inf = inf' := by rw [hinf] at hinf'; exact Option.some.inj hinf'
  have hfill := fill_one m f (fun q => (u8s m fun _ => 0)[q % m]!)
  have hzero : (Array.range (1 * m)).map (fun x => (u8s m fun _ => 0)[x % (u8s m fun _ => 0).size]!) = arr m (fun q => (u8s m fun _ => 0)[q % m]!) := by
    apply Array.ext_getElem?
    intro i
    rw [arr_get, Array.getElem?_map, u8s_size, Nat.one_mul]
    by_cases hi : i < m
    · rw [if_pos hi, Array.getElem?_range, if_pos hi]; rfl
    · rw [if_neg hi, Array.getElem?_range, if_neg hi]; rfl
  unfold WpV Oper.wp execOp
  simp only [hop, Instr.buildSlice, Sem.run_bind, run_underlying ht w, Result.andThen_ok, sizeOf, typeInfo, run_program, hinf, Sem.run_pure, hsz, zeroValue, List.map_toArray, List.map_cons, List.map_nil, hx, Value.cells]
  rw [if_neg (by simp only [Nat.reducePow]; omega), if_neg (by omega)]
  simp only [Sem.run_bind, run_program, Result.andThen_ok, hinf, Sem.run_pure, hz, hzero, hfill]
  simp [newRow, newObj, Oper.upon]
  exact ⟨_, rfl, ⟨_, rfl, Blk.new w _ e⟩, below_new _ _⟩
end
/-- The annihilator of a residue. -/
def IsAnn (p : Int) (xs ms c : List Int) : Prop := ∃ kr, kr ≤ 6 ∧ Rel p (fun j => cf (stpN p ms (rst p xs ms) j)) kr c ∧ ∀ j, j < kr → ¬ ∃ e, Rel p (fun j => cf (stpN p ms (rst p xs ms) j)) j e

set_option maxRecDepth 20000 in
set_option maxHeartbeats 2000000 in
theorem specAnnihilatorOf_any (f fm : Nat → Int) (p : Int) (b c : Bool) (M : List Int) (w : World) (hf : By f) (hh : By fm) (hb : Good p [fm, f] ↔ b = true) (hc : decide (Mon (mkp 64 fm)) = c) (hM : b = true → c = true → IsAnn p (mkp 64 f) (mkp 64 fm) M) :
    Calls Try.prog 26 #[.int .i64 p, .agg (u8s 64 f), .agg (u8s 64 fm)] w fun e w' => e = .returned (.tuple #[.agg (u8s 64 (aorA b c M)), .int .i64 (modC b c)]) ∧ Below w.heap.size w w' := by
  have hfH := Lib.hid hf
  have hhH := Lib.hid hh
  have hbH := Lib.hid hb
  have hcH := Lib.hid hc
  have hMH := Lib.hid hM
  clear hf hh hb hc hM
  obtain ⟨hb, hA, hM1, hZ⟩ := boxes3 w (u8s 64 f) (u8s 64 fm) (u8s 64 fun _ => 0) 23 23 23
  go_enter Try.func26, Try.ntmps26
  go_wp2_with ((with_reducible refine wpl_guard ?_); first | (refine wpl_alloc_arr rfl 23 rfl _ zPoly ?_) | (refine wpl_load_arr rfl 23 _ rfl _ rfl _ _ hA _ _ uPoly sPoly ?_) | (refine wpl_load_arr rfl 23 _ rfl _ rfl _ _ hM1 _ _ uPoly sPoly ?_) | (refine wpl_buildSlice_polys rfl 29 23 1 _ rfl Try.underlying29 sPoly zPoly [f] rfl (by decide) (by decide) rfl ?_))
  refine (l02Modulus_lit fm [f] 1 64 rfl rfl (by omega) p _ _ _ (Blk.newAt (by simp) _ _) hhH.out (by1 hfH.out) b c hbH.out hcH.out).mono ?_
  rintro e u0 ⟨rfl, hn⟩
  replace hA := (hA.alloc _).keep hn
  replace hM1 := (hM1.alloc _).keep hn
  replace hZ := (hZ.alloc _).keep hn
  replace hb := below_step hb (below_step (below_new _ _) hn)
  clear hn
  cases b
  · go_wp2_with ((with_reducible refine wpl_guard ?_); first | (refine wpl_build_zero rfl 23 64 5 rfl _ uPoly sByte zPoly ?_) | (refine wpl_store_arr rfl 23 _ _ rfl _ rfl _ rfl _ _ hZ sPoly (by simp only [u8s_size]) (u8s_oneCell _ _) ?_))
    exact bodyPost_ret (res_ct (x := .int .i64 1) rfl rfl (hZ.setRow_same (cs := u8s 64 fun _ => 0)) uPoly sPoly rfl) rfl ⟨rfl, below_setRow hb (by omega) _⟩
  cases c
  · go_wp2_with ((with_reducible refine wpl_guard ?_); first | (refine wpl_build_zero rfl 23 64 5 rfl _ uPoly sByte zPoly ?_) | (refine wpl_store_arr rfl 23 _ _ rfl _ rfl _ rfl _ _ hZ sPoly (by simp only [u8s_size]) (u8s_oneCell _ _) ?_))
    exact bodyPost_ret (res_ct (x := .int .i64 2) rfl rfl (hZ.setRow_same (cs := u8s 64 fun _ => 0)) uPoly sPoly rfl) rfl ⟨rfl, below_setRow hb (by omega) _⟩
  have hG := hbH.out.2 (by first | rfl | trivial)
  have hx0 : P64 p (mkp 64 f) := hG.p64 (f := f) (by simp) hfH.out
  have hx2 : P64 p (mkp 64 fm) := hG.p64 (f := fm) (by simp) hhH.out
  have hmon := (of_decide_eq_true hcH.out : Mon (mkp 64 fm))
  have hne := hmon.ne
  have hm6 := hmon.2.2
  obtain ⟨kr, hkr, hRel, hmin⟩ := hMH.out (by first | rfl | trivial) (by first | rfl | trivial)
  have hmd := fun w => l01Mod_any (mkp 64 f) (mkp 64 fm) p w hx0 hx2 hne
  have hrP := rst_Po hx0.pr hx0.po hx2.po hne
  have hrl := rst_lt hx0.pr hx0.po hx2.po hne
  obtain ⟨R, hR⟩ : ∃ R, rst p (mkp 64 f) (mkp 64 fm) = R := ⟨_, rfl⟩
  rw [hR] at hmd hrP hrl hRel hmin
  have hac := fun (v : Value) (w : World) (h : ∃ g, v = .slice (some ⟨g, 0, none⟩) 1 1 ∧ Blk w g (u8s 64 (cf R)) 23) => (by
    obtain ⟨g, rfl, h⟩ := h
    have := l04Annihilator_any p (mkp 64 fm) R kr g M w hx0.pr hx2 hne hm6 hrP hrl h hRel hmin
    rw [← u8s_mkp] at this
    exact this : Calls Try.prog 55 #[.int .i64 p, v, .agg (u8s 64 fm)] w fun e w' => e = .returned (.agg (u8s 64 (cf M))) ∧ Below w.heap.size w w')
  rw [← u8s_mkp, ← u8s_mkp] at hmd
  have hmdH := Lib.hid hmd
  have hacH := Lib.hid hac
  clear hac hmd hrP hrl hRel hmin hR hne hm6 hmon hx0 hx2 hG hMH hcH hbH
  go_upto_region 4 with (fail)
  go_upto_region 4 with (fail)
  refine gen_region (ws := w) (w := _) (B := w.heap.size) (by kernel_rfl) (by kernel_rfl) (by kernel_rfl) (by kernel_rfl)
      (fun i => ([fun zv _ => zv = .int .i64 p, fun zv _ => zv = .int .i64 p, fun zv _ => zv = .agg (u8s 64 f), fun zv _ => zv = .agg (u8s 64 fm), fun zv _ => zv = .agg (u8s 64 (cf R)), fun v w => ∃ g, v = .slice (some ⟨g, 0, none⟩) 1 1 ∧ Blk w g (u8s 64 (cf R)) 23, fun zv _ => zv = .agg (u8s 64 fm), fun zv _ => zv = .agg (u8s 64 (cf M)), fun _ _ => True, fun zv _ => zv = .int .i64 0] : List (Value → World → Prop)).getD i (fun _ _ => True))
      (fun i => ([true, true, true, true, false, false, true, false, true, true] : List Bool).getD i true)
      1 (fun zk => [8].getD zk 0) (fun zk => [7].getD zk 0) (fun zk => [6].getD zk 0) (fun zk => [25].getD zk 0) (fun zk => [w.heap.size + 1 + 1].getD zk 0) (fun zk => [64].getD zk 0) (fun zk => [(cf M)].getD zk (fun _ => 0)) (fun zk => [(fun _ => 0)].getD zk (fun _ => 0)) (fun zk => [23].getD zk 0) hb (Nat.le_refl _)
      (fun w' => Blk w' (w.heap.size) (u8s 64 f) 23 ∧ Blk w' (w.heap.size + 1) (u8s 64 fm) 23 ∧ True) ⟨hA.drew, hM1.drew, trivial⟩ (fun w1 w2 h hb => ⟨h.1.keep hb, h.2.1.keep hb, trivial⟩) ?_ ?_ ?_ ?_ ?_ ?_ ?_
  · intro k hk w1 cs h
    rcases k with _|k
    · exact ⟨h.1.setRow_other (by simp only [List.getD_cons_zero, List.getD_cons_succ] <;> omega), h.2.1.setRow_other (by simp only [List.getD_cons_zero, List.getD_cons_succ] <;> omega), trivial⟩
    · omega
  · intro i v w1 w2 h hb
    rcases i with _|_|_|_|_|_|_|_|_|_|i
    · exact h
    · exact h
    · exact h
    · exact h
    · exact h
    · obtain ⟨g, e, h1⟩ := h; exact ⟨g, e, h1.keep hb⟩
    · exact h
    · exact h
    · exact h
    · exact h
    · exact h
  · intro k hk
    rcases k with _|k
    · kernel_rfl
    · omega
  · intro k hk
    rcases k with _|k
    · refine ⟨?_, (by kernel_rfl), hZ, fun v w' h => h, by decide, ?_⟩
      · simp only [List.getD_cons_zero, List.getD_cons_succ] <;> omega
      · intro k' hk' hne
        rcases k' with _|k'
        all_goals first | omega | exact absurd rfl hne | (refine ⟨?_, by decide⟩; simp only [List.getD_cons_zero, List.getD_cons_succ]; omega)
    · omega
  · kernel_rfl
  · intro i o ho hz a w2 hBs hSx hBl hrd hpar
    rcases i with _|_|_|_|_|_|_|_|_|_|i
    · obtain rfl := Option.some.inj ho
      have e0 : a.eval (.tmp 0) = .int .i64 p := hpar 0 _ (by kernel_rfl) (by kernel_rfl)
      exact wpv_of (wp_move _ _ rfl e0) (fun _ _ => rfl)
    · obtain rfl := Option.some.inj ho
      have e0 : a.eval (.tmp 0) = .int .i64 p := hpar 0 _ (by kernel_rfl) (by kernel_rfl)
      exact wpv_of (wp_move _ _ rfl e0) (fun _ _ => rfl)
    · obtain rfl := Option.some.inj ho
      exact wpv_of (wp_loadB 23 _ rfl _ (hpar 4 (.pointer (some ⟨w.heap.size, 0, none⟩)) (by kernel_rfl) (by kernel_rfl)) _ _ hSx.1 _ _ uPoly sPoly) (fun _ _ => rfl)
    · obtain rfl := Option.some.inj ho
      exact wpv_of (wp_loadB 23 _ rfl _ (hpar 5 (.pointer (some ⟨w.heap.size + 1, 0, none⟩)) (by kernel_rfl) (by kernel_rfl)) _ _ hSx.2.1 _ _ uPoly sPoly) (fun _ _ => rfl)
    · obtain rfl := Option.some.inj ho
      obtain ⟨_, e19⟩ : ∃ _w : World, a.eval (.tmp 19) = .int .i64 p := (hrd 1 _ 19 rfl rfl (by kernel_rfl) (by kernel_rfl) (by decide)).1
      obtain ⟨_, e20⟩ : ∃ _w : World, a.eval (.tmp 20) = .agg (u8s 64 f) := (hrd 2 _ 20 rfl rfl (by kernel_rfl) (by kernel_rfl) (by decide)).1
      obtain ⟨_, e21⟩ : ∃ _w : World, a.eval (.tmp 21) = .agg (u8s 64 fm) := (hrd 3 _ 21 rfl rfl (by kernel_rfl) (by kernel_rfl) (by decide)).1
      exact wpv_call 56 [.tmp 19, .tmp 20, .tmp 21] _ rfl [.int .i64 p, .agg (u8s 64 f), .agg (u8s 64 fm)] (by simp only [List.map_cons, List.map_nil, e19, e20, e21]) Try.call56 ((hmdH.out w2).mono fun _ _ ⟨h1, h2⟩ => ⟨_, h1, rfl, h2⟩)
    · obtain rfl := Option.some.inj ho
      obtain ⟨_, e22⟩ : ∃ _w : World, a.eval (.tmp 22) = .agg (u8s 64 (cf R)) := (hrd 4 _ 22 rfl rfl (by kernel_rfl) (by kernel_rfl) (by decide)).1
      exact wpv_buildSlice_one 29 23 64 (.tmp 22) rfl uPolysJ sPoly zPoly (by decide) (by decide) (cf R) e22
    · obtain rfl := Option.some.inj ho
      exact wpv_of (wp_loadB 23 _ rfl _ (hpar 5 (.pointer (some ⟨w.heap.size + 1, 0, none⟩)) (by kernel_rfl) (by kernel_rfl)) _ _ hSx.2.1 _ _ uPoly sPoly) (fun _ _ => rfl)
    · obtain rfl := Option.some.inj ho
      obtain ⟨_, e18⟩ : ∃ _w : World, a.eval (.tmp 18) = .int .i64 p := (hrd 0 _ 18 rfl rfl (by kernel_rfl) (by kernel_rfl) (by decide)).1
      have h23 : (fun v w => ∃ g, v = .slice (some ⟨g, 0, none⟩) 1 1 ∧ Blk w g (u8s 64 (cf R)) 23) (a.eval (.tmp 23)) w2 := (hrd 5 _ 23 rfl rfl (by kernel_rfl) (by kernel_rfl) (by decide)).2 rfl
      generalize e23 : a.eval (.tmp 23) = v23 at h23
      obtain ⟨_, e24⟩ : ∃ _w : World, a.eval (.tmp 24) = .agg (u8s 64 fm) := (hrd 6 _ 24 rfl rfl (by kernel_rfl) (by kernel_rfl) (by decide)).1
      exact wpv_call 55 [.tmp 18, .tmp 23, .tmp 24] _ rfl [.int .i64 p, v23, .agg (u8s 64 fm)] (by simp only [List.map_cons, List.map_nil, e18, e23, e24]) Try.call55 ((hacH.out _ w2 h23).mono fun _ _ ⟨h1, h2⟩ => ⟨_, h1, rfl, h2⟩)
    · exact absurd rfl (hz 0 (by decide))
    · obtain rfl := Option.some.inj ho
      exact wpv_of (wp_assign _ (.int .i64 0) rfl rfl) (fun _ _ => rfl)
    · simp at ho
  intro vals xE hBx hSx hS0 hcs hrs
  obtain ⟨_, e0⟩ : ∃ _w : World, vals 0 = .int .i64 p := hcs 0 (by simp) (by decide)
  obtain ⟨_, e1⟩ : ∃ _w : World, vals 1 = .int .i64 p := hcs 1 (by simp) (by decide)
  obtain ⟨_, e2⟩ : ∃ _w : World, vals 2 = .agg (u8s 64 f) := hcs 2 (by simp) (by decide)
  obtain ⟨_, e3⟩ : ∃ _w : World, vals 3 = .agg (u8s 64 fm) := hcs 3 (by simp) (by decide)
  obtain ⟨_, e4⟩ : ∃ _w : World, vals 4 = .agg (u8s 64 (cf R)) := hcs 4 (by simp) (by decide)
  obtain ⟨_, e6⟩ : ∃ _w : World, vals 6 = .agg (u8s 64 fm) := hcs 6 (by simp) (by decide)
  obtain ⟨_, e7⟩ : ∃ _w : World, vals 7 = .agg (u8s 64 (cf M)) := hcs 7 (by simp) (by decide)
  obtain ⟨_, e9⟩ : ∃ _w : World, vals 9 = .int .i64 0 := hcs 9 (by simp) (by decide)
  have hsE0 : Blk xE (w.heap.size + 1 + 1) (u8s 64 (cf M)) 23 := hrs 0 (by decide)
  simp only [List.length_cons, List.length_nil, Nat.zero_add, Nat.reduceAdd, List.replicate, putAll, if_true, Act.put, List.setIfInBounds_toArray, List.set_cons_zero, List.set_cons_succ, e0, e1, e2, e3, e4, e6, e7, e9]
  replace hA := hSx.1
  replace hM1 := hSx.2.1
  clear hcs hrs hS0 hSx e0 e1 e2 e3 e4 e6 e7 e9
  go_wp2_with fail
  exact bodyPost_ret (res_ct (x := .int .i64 0) rfl rfl hsE0 uPoly sPoly rfl) rfl ⟨rfl, hBx⟩

set_option maxRecDepth 20000 in
set_option maxHeartbeats 2000000 in
theorem implAnnihilatorOf_any (f fm : Nat → Int) (p : Int) (b c : Bool) (M : List Int) (w : World) (hf : By f) (hh : By fm) (hb : Good p [fm, f] ↔ b = true) (hc : decide (Mon (mkp 64 fm)) = c) (hM : b = true → c = true → IsAnn p (mkp 64 f) (mkp 64 fm) M) :
    Calls Try.prog 27 #[.int .i64 p, .agg (u8s 64 f), .agg (u8s 64 fm)] w fun e w' => e = .returned (.tuple #[.agg (u8s 64 (aorA b c M)), .int .i64 (modC b c)]) ∧ Below w.heap.size w w' := by
  have hfH := Lib.hid hf
  have hhH := Lib.hid hh
  have hbH := Lib.hid hb
  have hcH := Lib.hid hc
  have hMH := Lib.hid hM
  clear hf hh hb hc hM
  obtain ⟨hb, hA, hM1, hZ⟩ := boxes3 w (u8s 64 f) (u8s 64 fm) (u8s 64 fun _ => 0) 23 23 23
  go_enter Try.func27, Try.ntmps27
  go_wp2_with ((with_reducible refine wpl_guard ?_); first | (refine wpl_alloc_arr rfl 23 rfl _ zPoly ?_) | (refine wpl_load_arr rfl 23 _ rfl _ rfl _ _ hA _ _ uPoly sPoly ?_) | (refine wpl_load_arr rfl 23 _ rfl _ rfl _ _ hM1 _ _ uPoly sPoly ?_) | (refine wpl_buildSlice_polys rfl 29 23 1 _ rfl Try.underlying29 sPoly zPoly [f] rfl (by decide) (by decide) rfl ?_))
  refine (modulusCode_lit fm [f] 1 64 rfl rfl (by omega) (by omega) p _ _ (Blk.newAt (by simp) _ _) hhH.out (by1 hfH.out) b c hbH.out hcH.out).mono ?_
  rintro e u0 ⟨rfl, hn⟩
  replace hb := below_lit hb (by simp only [size_alloc]; omega) (by simp) hn
  replace hA := hA.lit (by simp) hn
  replace hM1 := hM1.lit (by simp) hn
  replace hZ := hZ.lit (by simp) hn
  clear hn
  cases b
  · go_wp2_with ((with_reducible refine wpl_guard ?_); first | (refine wpl_build_zero rfl 23 64 5 rfl _ uPoly sByte zPoly ?_) | (refine wpl_store_arr rfl 23 _ _ rfl _ rfl _ rfl _ _ hZ sPoly (by simp only [u8s_size]) (u8s_oneCell _ _) ?_))
    exact bodyPost_ret (res_ct (x := .int .i64 1) rfl rfl (hZ.setRow_same (cs := u8s 64 fun _ => 0)) uPoly sPoly rfl) rfl ⟨rfl, below_setRow hb (by omega) _⟩
  cases c
  · go_wp2_with ((with_reducible refine wpl_guard ?_); first | (refine wpl_build_zero rfl 23 64 5 rfl _ uPoly sByte zPoly ?_) | (refine wpl_store_arr rfl 23 _ _ rfl _ rfl _ rfl _ _ hZ sPoly (by simp only [u8s_size]) (u8s_oneCell _ _) ?_))
    exact bodyPost_ret (res_ct (x := .int .i64 2) rfl rfl (hZ.setRow_same (cs := u8s 64 fun _ => 0)) uPoly sPoly rfl) rfl ⟨rfl, below_setRow hb (by omega) _⟩
  have hG := hbH.out.2 (by first | rfl | trivial)
  have hx0 : P64 p (mkp 64 f) := hG.p64 (f := f) (by simp) hfH.out
  have hx2 : P64 p (mkp 64 fm) := hG.p64 (f := fm) (by simp) hhH.out
  have hmon := (of_decide_eq_true hcH.out : Mon (mkp 64 fm))
  have hne := hmon.ne
  have hm6 := hmon.2.2
  obtain ⟨kr, hkr, hRel, hmin⟩ := hMH.out (by first | rfl | trivial) (by first | rfl | trivial)
  have hac := fun vx vm w (h1 : IsRow w vx (mkp 64 f)) (h2 : IsRow w vm (mkp 64 fm)) => annihilator_any p (mkp 64 f) (mkp 64 fm) vx vm kr M w hx0.pr h1 h2 hx0.po hx2.po hne hx0.le hm6 hRel hmin
  have hML : M.length ≤ 64 := by have := hRel.len; omega
  have htd := fun v w (h : IsRow w v M) => told_any v M w h (fun i => By_of_Po hx0.pr hRel.po i)
  rw [show toldF M = cf M from if_pos hML, show toldC M = 0 from if_pos hML] at htd
  have hacH := Lib.hid hac
  have htdH := Lib.hid htd
  clear hac htd hML hRel hmin hne hm6 hmon hx0 hx2 hG hMH hcH hbH
  go_upto_region 4 with (fail)
  refine gen_region (ws := w) (w := _) (B := w.heap.size) (by kernel_rfl) (by kernel_rfl) (by kernel_rfl) (by kernel_rfl)
      (fun i => ([fun zv _ => zv = .int .i64 p, fun zv _ => zv = .agg (u8s 64 f), fun v w => IsRow w v (mkp 64 f), fun zv _ => zv = .agg (u8s 64 fm), fun v w => IsRow w v (mkp 64 fm), fun v w => IsRow w v (M), fun zv _ => zv = .tuple #[.agg (u8s 64 (cf M)), .int .i64 0], fun zv _ => zv = .agg (u8s 64 (cf M)), fun zv _ => zv = .int .i64 0, fun _ _ => True, fun zv _ => zv = .int .i64 0] : List (Value → World → Prop)).getD i (fun _ _ => True))
      (fun i => ([true, true, false, true, false, false, false, true, true, true, true] : List Bool).getD i true)
      1 (fun zk => [9].getD zk 0) (fun zk => [7].getD zk 0) (fun zk => [6].getD zk 0) (fun zk => [25].getD zk 0) (fun zk => [w.heap.size + 1 + 1].getD zk 0) (fun zk => [64].getD zk 0) (fun zk => [(cf M)].getD zk (fun _ => 0)) (fun zk => [(fun _ => 0)].getD zk (fun _ => 0)) (fun zk => [23].getD zk 0) hb (Nat.le_refl _)
      (fun w' => Blk w' (w.heap.size) (u8s 64 f) 23 ∧ Blk w' (w.heap.size + 1) (u8s 64 fm) 23 ∧ True) ⟨hA.drew, hM1.drew, trivial⟩ (fun w1 w2 h hb => ⟨h.1.keep hb, h.2.1.keep hb, trivial⟩) ?_ ?_ ?_ ?_ ?_ ?_ ?_
  · intro k hk w1 cs h
    rcases k with _|k
    · exact ⟨h.1.setRow_other (by simp only [List.getD_cons_zero, List.getD_cons_succ] <;> omega), h.2.1.setRow_other (by simp only [List.getD_cons_zero, List.getD_cons_succ] <;> omega), trivial⟩
    · omega
  · intro i v w1 w2 h hb
    rcases i with _|_|_|_|_|_|_|_|_|_|_|i
    · exact h
    · exact h
    · exact (show IsRow w1 v (mkp 64 f) from h).below hb
    · exact h
    · exact (show IsRow w1 v (mkp 64 fm) from h).below hb
    · exact (show IsRow w1 v (M) from h).below hb
    · exact h
    · exact h
    · exact h
    · exact h
    · exact h
    · exact h
  · intro k hk
    rcases k with _|k
    · kernel_rfl
    · omega
  · intro k hk
    rcases k with _|k
    · refine ⟨?_, (by kernel_rfl), hZ, fun v w' h => h, by decide, ?_⟩
      · simp only [List.getD_cons_zero, List.getD_cons_succ] <;> omega
      · intro k' hk' hne
        rcases k' with _|k'
        all_goals first | omega | exact absurd rfl hne | (refine ⟨?_, by decide⟩; simp only [List.getD_cons_zero, List.getD_cons_succ]; omega)
    · omega
  · kernel_rfl
  · intro i o ho hz a w2 hBs hSx hBl hrd hpar
    rcases i with _|_|_|_|_|_|_|_|_|_|_|i
    · obtain rfl := Option.some.inj ho
      have e0 : a.eval (.tmp 0) = .int .i64 p := hpar 0 _ (by kernel_rfl) (by kernel_rfl)
      exact wpv_of (wp_move _ _ rfl e0) (fun _ _ => rfl)
    · obtain rfl := Option.some.inj ho
      exact wpv_of (wp_loadB 23 _ rfl _ (hpar 4 (.pointer (some ⟨w.heap.size, 0, none⟩)) (by kernel_rfl) (by kernel_rfl)) _ _ hSx.1 _ _ uPoly sPoly) (fun _ _ => rfl)
    · obtain rfl := Option.some.inj ho
      obtain ⟨_, e19⟩ : ∃ _w : World, a.eval (.tmp 19) = .agg (u8s 64 f) := (hrd 1 _ 19 rfl rfl (by kernel_rfl) (by kernel_rfl) (by decide)).1
      exact wpv_call 33 [.tmp 19] _ rfl [.agg (u8s 64 f)] (by simp only [List.map_cons, List.map_nil, e19]) Try.call33 (rowOf_any f w2 hfH.out.on)
    · obtain rfl := Option.some.inj ho
      exact wpv_of (wp_loadB 23 _ rfl _ (hpar 5 (.pointer (some ⟨w.heap.size + 1, 0, none⟩)) (by kernel_rfl) (by kernel_rfl)) _ _ hSx.2.1 _ _ uPoly sPoly) (fun _ _ => rfl)
    · obtain rfl := Option.some.inj ho
      obtain ⟨_, e21⟩ : ∃ _w : World, a.eval (.tmp 21) = .agg (u8s 64 fm) := (hrd 3 _ 21 rfl rfl (by kernel_rfl) (by kernel_rfl) (by decide)).1
      exact wpv_call 33 [.tmp 21] _ rfl [.agg (u8s 64 fm)] (by simp only [List.map_cons, List.map_nil, e21]) Try.call33 (rowOf_any fm w2 hhH.out.on)
    · obtain rfl := Option.some.inj ho
      obtain ⟨_, e18⟩ : ∃ _w : World, a.eval (.tmp 18) = .int .i64 p := (hrd 0 _ 18 rfl rfl (by kernel_rfl) (by kernel_rfl) (by decide)).1
      have h20 : (fun v w => IsRow w v (mkp 64 f)) (a.eval (.tmp 20)) w2 := (hrd 2 _ 20 rfl rfl (by kernel_rfl) (by kernel_rfl) (by decide)).2 rfl
      generalize e20 : a.eval (.tmp 20) = v20 at h20
      have h22 : (fun v w => IsRow w v (mkp 64 fm)) (a.eval (.tmp 22)) w2 := (hrd 4 _ 22 rfl rfl (by kernel_rfl) (by kernel_rfl) (by decide)).2 rfl
      generalize e22 : a.eval (.tmp 22) = v22 at h22
      exact wpv_call 57 [.tmp 18, .tmp 20, .tmp 22] _ rfl [.int .i64 p, v20, v22] (by simp only [List.map_cons, List.map_nil, e18, e20, e22]) Try.call57 (hacH.out _ _ w2 h20 h22)
    · obtain rfl := Option.some.inj ho
      have h23 : (fun v w => IsRow w v (M)) (a.eval (.tmp 23)) w2 := (hrd 5 _ 23 rfl rfl (by kernel_rfl) (by kernel_rfl) (by decide)).2 rfl
      generalize e23 : a.eval (.tmp 23) = v23 at h23
      exact wpv_call 31 [.tmp 23] _ rfl [v23] (by simp only [List.map_cons, List.map_nil, e23]) Try.call31 ((htdH.out _ w2 h23).mono fun _ _ ⟨h1, h2⟩ => ⟨_, h1, rfl, h2⟩)
    · obtain rfl := Option.some.inj ho
      obtain ⟨_, e24⟩ : ∃ _w : World, a.eval (.tmp 24) = .tuple #[.agg (u8s 64 (cf M)), .int .i64 0] := (hrd 6 _ 24 rfl rfl (by kernel_rfl) (by kernel_rfl) (by decide)).1
      exact wpv_of (wp_extract _ 0 #[.agg (u8s 64 (cf M)), .int .i64 0] _ rfl e24 rfl) (fun _ _ => rfl)
    · obtain rfl := Option.some.inj ho
      obtain ⟨_, e24⟩ : ∃ _w : World, a.eval (.tmp 24) = .tuple #[.agg (u8s 64 (cf M)), .int .i64 0] := (hrd 6 _ 24 rfl rfl (by kernel_rfl) (by kernel_rfl) (by decide)).1
      exact wpv_of (wp_extract _ 1 #[.agg (u8s 64 (cf M)), .int .i64 0] _ rfl e24 rfl) (fun _ _ => rfl)
    · exact absurd rfl (hz 0 (by decide))
    · obtain rfl := Option.some.inj ho
      obtain ⟨_, e26⟩ : ∃ _w : World, a.eval (.tmp 26) = .int .i64 0 := (hrd 8 _ 26 rfl rfl (by kernel_rfl) (by kernel_rfl) (by decide)).1
      exact wpv_of (wp_assign _ _ rfl e26) (fun _ _ => rfl)
    · simp at ho
  intro vals xE hBx hSx hS0 hcs hrs
  obtain ⟨_, e0⟩ : ∃ _w : World, vals 0 = .int .i64 p := hcs 0 (by simp) (by decide)
  obtain ⟨_, e1⟩ : ∃ _w : World, vals 1 = .agg (u8s 64 f) := hcs 1 (by simp) (by decide)
  obtain ⟨_, e3⟩ : ∃ _w : World, vals 3 = .agg (u8s 64 fm) := hcs 3 (by simp) (by decide)
  obtain ⟨_, e6⟩ : ∃ _w : World, vals 6 = .tuple #[.agg (u8s 64 (cf M)), .int .i64 0] := hcs 6 (by simp) (by decide)
  obtain ⟨_, e7⟩ : ∃ _w : World, vals 7 = .agg (u8s 64 (cf M)) := hcs 7 (by simp) (by decide)
  obtain ⟨_, e8⟩ : ∃ _w : World, vals 8 = .int .i64 0 := hcs 8 (by simp) (by decide)
  obtain ⟨_, e10⟩ : ∃ _w : World, vals 10 = .int .i64 0 := hcs 10 (by simp) (by decide)
  have hsE0 : Blk xE (w.heap.size + 1 + 1) (u8s 64 (cf M)) 23 := hrs 0 (by decide)
  simp only [List.length_cons, List.length_nil, Nat.zero_add, Nat.reduceAdd, List.replicate, putAll, if_true, Act.put, List.setIfInBounds_toArray, List.set_cons_zero, List.set_cons_succ, e0, e1, e3, e6, e7, e8, e10]
  replace hA := hSx.1
  replace hM1 := hSx.2.1
  clear hcs hrs hS0 hSx e0 e1 e3 e6 e7 e8 e10
  go_wp2_with fail
  exact bodyPost_ret (res_ct (x := .int .i64 0) rfl rfl hsE0 uPoly sPoly rfl) rfl ⟨rfl, hBx⟩

theorem AnnihilatorOf_pair (p : Int) (f fm : Nat → Int) (_ : (Lit.int .i64 p).wf = true) (hf : By f) (hh : By fm) : ∃ (r0 : Nat → Int) (r1 : Int),
    (∀ w, Calls Try.prog 26 #[.int .i64 p, .agg (u8s 64 f), .agg (u8s 64 fm)] w fun e w' => e = .returned (.tuple #[.agg (u8s 64 r0), .int .i64 r1]) ∧ Below w.heap.size w w') ∧
    (∀ w, Calls Try.prog 27 #[.int .i64 p, .agg (u8s 64 f), .agg (u8s 64 fm)] w fun e w' => e = .returned (.tuple #[.agg (u8s 64 r0), .int .i64 r1]) ∧ Below w.heap.size w w') := by
  obtain ⟨b, hb⟩ := dec_true (Good p [fm, f])
  obtain ⟨M, hM⟩ : ∃ M, b = true → decide (Mon (mkp 64 fm)) = true → IsAnn p (mkp 64 f) (mkp 64 fm) M := by
    by_cases h : b = true ∧ decide (Mon (mkp 64 fm)) = true
    · have hG := hb.2 h.1
      have hx0 : P64 p (mkp 64 f) := hG.p64 (f := f) (by simp) hf
      have hx2 : P64 p (mkp 64 fm) := hG.p64 (f := fm) (by simp) hh
      have hmon := of_decide_eq_true h.2
      have hsN := stpN_ok hx0.pr (rst_Po hx0.pr hx0.po hx2.po hmon.ne) (rst_lt hx0.pr hx0.po hx2.po hmon.ne) hx2.po hmon.ne
      obtain ⟨kr, c, h1, h2, h3⟩ := least_rel hx0.pr (fun j => (hsN j).1) (fun j => Nat.le_of_lt (hsN j).2)
      exact ⟨c, fun _ _ => ⟨kr, Nat.le_trans h1 hmon.2.2, h2, h3⟩⟩
    · exact ⟨[], fun h1 h2 => absurd ⟨h1, h2⟩ h⟩
  exact ⟨_, _, fun w => specAnnihilatorOf_any f fm p b _ M w hf hh hb rfl hM, fun w => implAnnihilatorOf_any f fm p b _ M w hf hh hb rfl hM⟩
end Go.Proofs.Ytionaenmjndncab

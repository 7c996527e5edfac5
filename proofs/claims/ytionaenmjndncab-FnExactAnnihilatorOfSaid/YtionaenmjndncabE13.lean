/- Walks: what an action makes of a residue, on both sides. -/
import Derived.Test.YtionaenmjndncabE8
import Derived.Test.YtionaenmjndncabActP
set_option linter.unusedVariables false
set_option linter.unusedSimpArgs false
namespace Go.Proofs.Ytionaenmjndncab
open Go.RowKit

set_option maxRecDepth 20000 in
set_option maxHeartbeats 2000000 in
theorem l04Step_any (xs ms : List Int) (p : Int) (w : World) (hx : P64 p xs) (hm : P64 p ms) (hne : ms ≠ []) :
    Calls Try.prog 61 #[.int .i64 p, .agg (u8s 64 (cf xs)), .agg (u8s 64 (cf ms))] w fun e w' => e = .returned (.agg (u8s 64 (cf (stp p ms xs)))) ∧ Below w.heap.size w w' := by
  have hT : P64 p [0, 1] := ⟨hx.pr, letter_Po hx.pr.pos.1, by simp⟩
  have s1 := fun w => l01Mod_any [0, 1] ms p w hT hm hne
  have hRP := rst_P64 hT hm hne
  have s2 := fun w => l01MulMod_any (rst p [0, 1] ms) xs ms p w hRP hx hm hne
  have hMP := mulmod_P64 (rst p [0, 1] ms) xs hm hne
  obtain ⟨P, hP⟩ := Int.eq_ofNat_of_zero_le (show 0 ≤ p by have := hx.pr.pos; omega)
  have hPle : P ≤ 1000000000000 := by have := hx.pr.pos; omega
  have s3 := fun w => l01PowMod_any xs ms P p w hx hm hne hPle
  have hpw := powp_Po hx.pr hx.po hm.po hne P
  have hWP : P64 p (powp p xs P ms) := ⟨hx.pr, hpw.1, by have := hpw.2; have := hm.le; omega⟩
  have s4 := fun w => l01Add_list (mulmod p (rst p [0, 1] ms) xs ms) (powp p xs P ms) p 1 w hMP hWP (by decide) (by decide)
  rw [stp_eq hx.pr hx.po hm.po hne]
  unfold stpS
  rw [show p.toNat = P by omega]
  generalize rst p [0, 1] ms = R at *
  generalize mulmod p R xs ms = S at *
  generalize powp p xs P ms = Q at *
  generalize addp p S Q 1 = D at *
  rw [← hP] at s3
  have k1 := Lib.hid s1
  have k2 := Lib.hid s2
  have k3 := Lib.hid s3
  have k4 := Lib.hid s4
  clear s1 s2 s3 s4 hpw hWP hMP hRP hT hPle hx hm hne hP
  obtain ⟨hb, hA, hD, hE⟩ := boxes3 w (u8s 64 (cf xs)) (u8s 64 (cf ms)) (u8s 64 fun _ => 0) 23 23 23
  go_enter Try.func61, Try.ntmps61
  go_upto_region 1 with ((with_reducible refine wpl_guard ?_); first | (refine wpl_alloc_arr rfl 23 rfl _ zPoly ?_))
  simp only [size_alloc]
  refine gen_region (ws := w) (w := _) (B := w.heap.size) (by kernel_rfl) (by kernel_rfl) (by kernel_rfl) (by kernel_rfl)
      (fun i => ([fun v _ => v = .int .i64 p, fun v _ => v = .int .i64 p, fun v _ => v = .int .i64 p, fun v _ => v = .agg (u8s 64 (cf [0, 1])), fun v _ => v = .agg (u8s 64 (cf ms)), fun v _ => v = .agg (u8s 64 (cf R)), fun v _ => v = .agg (u8s 64 (cf xs)), fun v _ => v = .agg (u8s 64 (cf ms)), fun v _ => v = .agg (u8s 64 (cf S)), fun v _ => v = .int .i64 p, fun v _ => v = .agg (u8s 64 (cf xs)), fun v _ => v = .int .i64 p, fun v _ => v = .agg (u8s 64 (cf ms)), fun v _ => v = .agg (u8s 64 (cf Q)), fun v _ => v = .agg (u8s 64 (cf D)), fun _ _ => True] : List (Value → World → Prop)).getD i (fun _ _ => True))
      (fun i => ([true, true, true, false, true, false, true, true, false, true, true, true, true, false, false, true] : List Bool).getD i true)
      1 (fun k => [15].getD k 0) (fun k => [14].getD k 0) (fun k => [6].getD k 0) (fun k => [21].getD k 0) (fun k => [w.heap.size + 1 + 1].getD k 0) (fun k => [64].getD k 0) (fun k => [(cf D)].getD k (fun _ => 0)) (fun k => [(fun _ => 0)].getD k (fun _ => 0)) (fun k => [23].getD k 0) hb (Nat.le_refl _)
      (fun w' => Blk w' (w.heap.size) (u8s 64 (cf xs)) 23 ∧ Blk w' (w.heap.size + 1) (u8s 64 (cf ms)) 23 ∧ True) ⟨hA.drew, hD.drew, trivial⟩ (fun w1 w2 h hb => ⟨h.1.keep hb, h.2.1.keep hb, trivial⟩) ?_ ?_ ?_ ?_ ?_ ?_ ?_
  · intro k hk w1 cs h
    rcases k with _|k
    · exact ⟨h.1.setRow_other (by simp only [List.getD_cons_zero, List.getD_cons_succ] <;> omega), h.2.1.setRow_other (by simp only [List.getD_cons_zero, List.getD_cons_succ] <;> omega), trivial⟩
    · omega
  · intro i v w1 w2 h hb
    rcases i with _|_|_|_|_|_|_|_|_|_|_|_|_|_|_|_|i
    · exact h
    · exact h
    · exact h
    · exact h
    · exact h
    · exact h
    · exact h
    · exact h
    · exact h
    · exact h
    · exact h
    · exact h
    · exact h
    · exact h
    · exact h
    · exact h
    · exact h
  · intro k hk
    rcases k with _|k
    · kernel_rfl
    · omega
  · intro k hk
    rcases k with _|k
    · refine ⟨?_, (by kernel_rfl), hE, fun v w' h => h, by decide, ?_⟩
      · simp only [List.getD_cons_zero, List.getD_cons_succ] <;> omega
      · intro k' hk' hne
        rcases k' with _|k'
        all_goals first | omega | exact absurd rfl hne | (refine ⟨?_, by decide⟩; simp only [List.getD_cons_zero, List.getD_cons_succ]; omega)
    · omega
  · kernel_rfl
  · intro i o ho hz a w2 hBs hSx hBl hrd hpar
    rcases i with _|_|_|_|_|_|_|_|_|_|_|_|_|_|_|_|i
    · obtain rfl := Option.some.inj ho
      have e0 : a.eval (.tmp 0) = .int .i64 p := hpar 0 _ (by kernel_rfl) (by kernel_rfl)
      exact wpv_of (wp_move _ _ rfl e0) (fun _ _ => rfl)
    · obtain rfl := Option.some.inj ho
      have e0 : a.eval (.tmp 0) = .int .i64 p := hpar 0 _ (by kernel_rfl) (by kernel_rfl)
      exact wpv_of (wp_move _ _ rfl e0) (fun _ _ => rfl)
    · obtain rfl := Option.some.inj ho
      have e0 : a.eval (.tmp 0) = .int .i64 p := hpar 0 _ (by kernel_rfl) (by kernel_rfl)
      exact wpv_of (wp_move _ _ rfl e0) (fun _ _ => rfl)
    · obtain rfl := Option.some.inj ho
      exact wpv_call 85 [] _ rfl [] (by simp only [List.map_cons, List.map_nil, ]) Try.call85 ((l01T_any w2).mono fun _ _ ⟨h1, h2⟩ => ⟨_, h1, rfl, h2⟩)
    · obtain rfl := Option.some.inj ho
      exact wpv_of (wp_loadB 23 _ rfl _ (hpar 5 (.pointer (some ⟨w.heap.size + 1, 0, none⟩)) (by kernel_rfl) (by kernel_rfl)) _ _ hSx.2.1 _ _ uPoly sPoly) (fun _ _ => rfl)
    · obtain rfl := Option.some.inj ho
      obtain ⟨_, e9⟩ : ∃ _w : World, a.eval (.tmp 9) = .int .i64 p := (hrd 2 _ 9 rfl rfl (by kernel_rfl) (by kernel_rfl) (by decide)).1
      obtain ⟨_, e10⟩ : ∃ _w : World, a.eval (.tmp 10) = .agg (u8s 64 (cf [0, 1])) := (hrd 3 _ 10 rfl rfl (by kernel_rfl) (by kernel_rfl) (by decide)).1
      obtain ⟨_, e11⟩ : ∃ _w : World, a.eval (.tmp 11) = .agg (u8s 64 (cf ms)) := (hrd 4 _ 11 rfl rfl (by kernel_rfl) (by kernel_rfl) (by decide)).1
      exact wpv_call 56 [.tmp 9, .tmp 10, .tmp 11] _ rfl [.int .i64 p, .agg (u8s 64 (cf [0, 1])), .agg (u8s 64 (cf ms))] (by simp only [List.map_cons, List.map_nil, e9, e10, e11]) Try.call56 ((k1.out w2).mono fun _ _ ⟨h1, h2⟩ => ⟨_, h1, rfl, h2⟩)
    · obtain rfl := Option.some.inj ho
      exact wpv_of (wp_loadB 23 _ rfl _ (hpar 4 (.pointer (some ⟨w.heap.size, 0, none⟩)) (by kernel_rfl) (by kernel_rfl)) _ _ hSx.1 _ _ uPoly sPoly) (fun _ _ => rfl)
    · obtain rfl := Option.some.inj ho
      exact wpv_of (wp_loadB 23 _ rfl _ (hpar 5 (.pointer (some ⟨w.heap.size + 1, 0, none⟩)) (by kernel_rfl) (by kernel_rfl)) _ _ hSx.2.1 _ _ uPoly sPoly) (fun _ _ => rfl)
    · obtain rfl := Option.some.inj ho
      obtain ⟨_, e8⟩ : ∃ _w : World, a.eval (.tmp 8) = .int .i64 p := (hrd 1 _ 8 rfl rfl (by kernel_rfl) (by kernel_rfl) (by decide)).1
      obtain ⟨_, e12⟩ : ∃ _w : World, a.eval (.tmp 12) = .agg (u8s 64 (cf R)) := (hrd 5 _ 12 rfl rfl (by kernel_rfl) (by kernel_rfl) (by decide)).1
      obtain ⟨_, e13⟩ : ∃ _w : World, a.eval (.tmp 13) = .agg (u8s 64 (cf xs)) := (hrd 6 _ 13 rfl rfl (by kernel_rfl) (by kernel_rfl) (by decide)).1
      obtain ⟨_, e14⟩ : ∃ _w : World, a.eval (.tmp 14) = .agg (u8s 64 (cf ms)) := (hrd 7 _ 14 rfl rfl (by kernel_rfl) (by kernel_rfl) (by decide)).1
      exact wpv_call 84 [.tmp 8, .tmp 12, .tmp 13, .tmp 14] _ rfl [.int .i64 p, .agg (u8s 64 (cf R)), .agg (u8s 64 (cf xs)), .agg (u8s 64 (cf ms))] (by simp only [List.map_cons, List.map_nil, e8, e12, e13, e14]) Try.call84 ((k2.out w2).mono fun _ _ ⟨h1, h2⟩ => ⟨_, h1, rfl, h2⟩)
    · obtain rfl := Option.some.inj ho
      have e0 : a.eval (.tmp 0) = .int .i64 p := hpar 0 _ (by kernel_rfl) (by kernel_rfl)
      exact wpv_of (wp_move _ _ rfl e0) (fun _ _ => rfl)
    · obtain rfl := Option.some.inj ho
      exact wpv_of (wp_loadB 23 _ rfl _ (hpar 4 (.pointer (some ⟨w.heap.size, 0, none⟩)) (by kernel_rfl) (by kernel_rfl)) _ _ hSx.1 _ _ uPoly sPoly) (fun _ _ => rfl)
    · obtain rfl := Option.some.inj ho
      have e0 : a.eval (.tmp 0) = .int .i64 p := hpar 0 _ (by kernel_rfl) (by kernel_rfl)
      exact wpv_of (wp_move _ _ rfl e0) (fun _ _ => rfl)
    · obtain rfl := Option.some.inj ho
      exact wpv_of (wp_loadB 23 _ rfl _ (hpar 5 (.pointer (some ⟨w.heap.size + 1, 0, none⟩)) (by kernel_rfl) (by kernel_rfl)) _ _ hSx.2.1 _ _ uPoly sPoly) (fun _ _ => rfl)
    · obtain rfl := Option.some.inj ho
      obtain ⟨_, e16⟩ : ∃ _w : World, a.eval (.tmp 16) = .int .i64 p := (hrd 9 _ 16 rfl rfl (by kernel_rfl) (by kernel_rfl) (by decide)).1
      obtain ⟨_, e17⟩ : ∃ _w : World, a.eval (.tmp 17) = .agg (u8s 64 (cf xs)) := (hrd 10 _ 17 rfl rfl (by kernel_rfl) (by kernel_rfl) (by decide)).1
      obtain ⟨_, e18⟩ : ∃ _w : World, a.eval (.tmp 18) = .int .i64 p := (hrd 11 _ 18 rfl rfl (by kernel_rfl) (by kernel_rfl) (by decide)).1
      obtain ⟨_, e19⟩ : ∃ _w : World, a.eval (.tmp 19) = .agg (u8s 64 (cf ms)) := (hrd 12 _ 19 rfl rfl (by kernel_rfl) (by kernel_rfl) (by decide)).1
      exact wpv_call 86 [.tmp 16, .tmp 17, .tmp 18, .tmp 19] _ rfl [.int .i64 p, .agg (u8s 64 (cf xs)), .int .i64 p, .agg (u8s 64 (cf ms))] (by simp only [List.map_cons, List.map_nil, e16, e17, e18, e19]) Try.call86 ((k3.out w2).mono fun _ _ ⟨h1, h2⟩ => ⟨_, h1, rfl, h2⟩)
    · obtain rfl := Option.some.inj ho
      obtain ⟨_, e7⟩ : ∃ _w : World, a.eval (.tmp 7) = .int .i64 p := (hrd 0 _ 7 rfl rfl (by kernel_rfl) (by kernel_rfl) (by decide)).1
      obtain ⟨_, e15⟩ : ∃ _w : World, a.eval (.tmp 15) = .agg (u8s 64 (cf S)) := (hrd 8 _ 15 rfl rfl (by kernel_rfl) (by kernel_rfl) (by decide)).1
      obtain ⟨_, e20⟩ : ∃ _w : World, a.eval (.tmp 20) = .agg (u8s 64 (cf Q)) := (hrd 13 _ 20 rfl rfl (by kernel_rfl) (by kernel_rfl) (by decide)).1
      exact wpv_call 42 [.tmp 7, .tmp 15, .tmp 20, .const (.int .i64 1)] _ rfl [.int .i64 p, .agg (u8s 64 (cf S)), .agg (u8s 64 (cf Q)), .int .i64 1] (by simp only [List.map_cons, List.map_nil, e7, e15, e20, eval_const]) Try.call42 ((k4.out w2).mono fun _ _ ⟨h1, h2⟩ => ⟨_, h1, rfl, h2⟩)
    · exact absurd rfl (hz 0 (by decide))
    · simp at ho
  intro vals xE hBx hSx hS0 hcs hrs
  obtain ⟨_, e0⟩ : ∃ _w : World, vals 0 = .int .i64 p := hcs 0 (by simp) (by decide)
  obtain ⟨_, e1⟩ : ∃ _w : World, vals 1 = .int .i64 p := hcs 1 (by simp) (by decide)
  obtain ⟨_, e2⟩ : ∃ _w : World, vals 2 = .int .i64 p := hcs 2 (by simp) (by decide)
  obtain ⟨_, e3⟩ : ∃ _w : World, vals 3 = .agg (u8s 64 (cf [0, 1])) := hcs 3 (by simp) (by decide)
  obtain ⟨_, e4⟩ : ∃ _w : World, vals 4 = .agg (u8s 64 (cf ms)) := hcs 4 (by simp) (by decide)
  obtain ⟨_, e5⟩ : ∃ _w : World, vals 5 = .agg (u8s 64 (cf R)) := hcs 5 (by simp) (by decide)
  obtain ⟨_, e6⟩ : ∃ _w : World, vals 6 = .agg (u8s 64 (cf xs)) := hcs 6 (by simp) (by decide)
  obtain ⟨_, e7⟩ : ∃ _w : World, vals 7 = .agg (u8s 64 (cf ms)) := hcs 7 (by simp) (by decide)
  obtain ⟨_, e8⟩ : ∃ _w : World, vals 8 = .agg (u8s 64 (cf S)) := hcs 8 (by simp) (by decide)
  obtain ⟨_, e9⟩ : ∃ _w : World, vals 9 = .int .i64 p := hcs 9 (by simp) (by decide)
  obtain ⟨_, e10⟩ : ∃ _w : World, vals 10 = .agg (u8s 64 (cf xs)) := hcs 10 (by simp) (by decide)
  obtain ⟨_, e11⟩ : ∃ _w : World, vals 11 = .int .i64 p := hcs 11 (by simp) (by decide)
  obtain ⟨_, e12⟩ : ∃ _w : World, vals 12 = .agg (u8s 64 (cf ms)) := hcs 12 (by simp) (by decide)
  obtain ⟨_, e13⟩ : ∃ _w : World, vals 13 = .agg (u8s 64 (cf Q)) := hcs 13 (by simp) (by decide)
  obtain ⟨_, e14⟩ : ∃ _w : World, vals 14 = .agg (u8s 64 (cf D)) := hcs 14 (by simp) (by decide)
  have hsE0 : Blk xE (w.heap.size + 1 + 1) (u8s 64 (cf D)) 23 := hrs 0 (by decide)
  simp only [List.length_cons, List.length_nil, Nat.zero_add, Nat.reduceAdd, List.replicate, putAll, if_true, Act.put, List.setIfInBounds_toArray, List.set_cons_zero, List.set_cons_succ, e0, e1, e2, e3, e4, e5, e6, e7, e8, e9, e10, e11, e12, e13, e14]
  replace hA := hSx.1
  replace hD := hSx.2.1
  clear hcs hrs hS0 hSx e0 e1 e2 e3 e4 e5 e6 e7 e8 e9 e10 e11 e12 e13 e14
  go_wp2_with fail
  exact bodyPost_ret (res_c rfl rfl hsE0 uPoly sPoly) rfl ⟨rfl, hBx⟩

set_option maxRecDepth 20000 in
set_option maxHeartbeats 2000000 in
theorem l04Act_any (aa xs ms : List Int) (p : Int) (w : World) (ha : P64 p aa) (hx : P64 p xs) (hm : P64 p ms) (hne : ms ≠ []) :
    Calls Try.prog 29 #[.int .i64 p, .agg (u8s 64 (cf aa)), .agg (u8s 64 (cf xs)), .agg (u8s 64 (cf ms))] w fun e w' => e = .returned (.agg (u8s 64 (cf (aclN p ms aa (rst p xs ms) aa.length)))) ∧ Below w.heap.size w w' := by
  have hyP := rst_P64 hx hm hne
  have hyl := rst_lt hx.pr hx.po hm.po hne
  have s1 := fun w => l01Mod_any xs ms p w hx hm hne
  obtain ⟨ys, hys⟩ : ∃ ys, rst p xs ms = ys := ⟨_, rfl⟩
  rw [hys] at s1 hyP hyl
  rw [hys]
  have hS : ∀ k, P64 p (stpN p ms ys k) := fun k => by
    have h := stpN_ok hyP.pr hyP.po hyl hm.po hne k
    exact ⟨hyP.pr, h.1, by have := h.2; have := hm.le; omega⟩
  have hO : ∀ k, P64 p (aclN p ms aa ys k) := fun k => by
    have h := aclN_ok (a := aa) hyP.pr hyP.po hyl hm.po hne k
    exact ⟨hyP.pr, h.1, by have := h.2; have := hm.le; omega⟩
  have s2 := fun w => l01Deg_list p aa w ha
  have s3 : ∀ k w, Calls Try.prog 42 #[.int .i64 p, .agg (u8s 64 (cf (aclN p ms aa ys k))), .agg (u8s 64 (cf (stpN p ms ys k))), .int .i64 (cf aa k)] w fun e w' => e = .returned (.agg (u8s 64 (cf (aclN p ms aa ys (k + 1))))) ∧ Below w.heap.size w w' := fun k w =>
    l01Add_list _ _ p _ w (hO k) (hS k) (by have := ha.rng k; omega) (by have := ha.rng k; omega)
  have s4 : ∀ k w, Calls Try.prog 61 #[.int .i64 p, .agg (u8s 64 (cf (stpN p ms ys k))), .agg (u8s 64 (cf ms))] w fun e w' => e = .returned (.agg (u8s 64 (cf (stpN p ms ys (k + 1))))) ∧ Below w.heap.size w w' := fun k w =>
    l04Step_any _ ms p w (hS k) hm hne
  have hrg := Lib.hid (fun i => ha.rng i)
  have hL64 := ha.le
  generalize hL : aa.length = L at *
  have k1 := Lib.hid s1
  have k2 := Lib.hid s2
  have k3 := Lib.hid s3
  have k4 := Lib.hid s4
  clear s1 s2 s3 s4 hS hO hyP hyl hys hx hm hne ha hL
  obtain ⟨hb, hA, hX, hM, hZ⟩ := boxes4 w (u8s 64 (cf aa)) (u8s 64 (cf xs)) (u8s 64 (cf ms)) (u8s 64 fun _ => 0) 23 23 23 23
  go_enter Try.func29, Try.ntmps29
  go_wp2_with ((with_reducible refine wpl_guard ?_); first | (refine wpl_alloc_arr rfl 23 rfl _ zPoly ?_) | (refine wpl_build_zero rfl 23 64 5 rfl _ uPoly sByte zPoly ?_) | (refine wpl_load_arr rfl 23 _ rfl _ rfl _ _ hX _ _ uPoly sPoly ?_) | (refine wpl_load_arr rfl 23 _ rfl _ rfl _ _ hM _ _ uPoly sPoly ?_))
  refine (k1.out _).mono ?_
  rintro e u1 ⟨rfl, hn⟩
  replace hA := hA.keep hn
  replace hX := hX.keep hn
  replace hM := hM.keep hn
  replace hZ := hZ.keep hn
  replace hb := below_step hb hn
  clear hn
  have hZl := hZ.lt
  go_upto_region 2 with ((with_reducible refine wpl_guard ?_); first | (refine wpl_new2 23 zPoly sPoly _ _ rfl rfl rfl rfl rfl _ _ rfl rfl rfl rfl rfl rfl _ rfl rfl _ rfl ?_; intro w4 hn hN hV; replace hA := hA.keep hn; replace hX := hX.keep hn; replace hM := hM.keep hn; replace hZ := hZ.keep hn; replace hb := below_step hb hn; clear hn))
  clear hX
  obtain ⟨gN, hgN⟩ : ∃ g, u1.heap.size = g := ⟨_, rfl⟩
  obtain ⟨gV, hgV⟩ : ∃ g, u1.heap.size + 1 = g := ⟨_, rfl⟩
  simp only [hgV] at hV ⊢
  simp only [hgN] at hN hZl hgV ⊢
  have q1 : gV ≠ gN := by omega
  have q2 : w.heap.size + 1 + 1 + 1 < gN := by omega
  have q3 : gN < gV := by omega
  clear hgN hgV hZl
  go_wp2_with fail
  go_loopw [11] (fun i wr => ∃ k : Nat, k ≤ L ∧ i = .int .i64 k ∧ Blk wr w.heap.size (u8s 64 (cf aa)) 23 ∧ Blk wr (w.heap.size + 1 + 1) (u8s 64 (cf ms)) 23 ∧ Blk wr (w.heap.size + 1 + 1 + 1) (u8s 64 fun _ => 0) 23 ∧ Blk wr gN (u8s 64 (cf (aclN p ms aa ys k))) 23 ∧ Blk wr gV (u8s 64 (cf (stpN p ms ys k))) 23 ∧ Below w.heap.size w wr) (fun i _ => L + 1 - (intOf i).toNat)
  case atStart => exact ⟨0, by omega, rfl, hA, hM, hZ, hN.cast (u8s_ext fun i _ => (cf_nil i).symm), hV, hb⟩
  case round =>
    clear hA hM hZ hN hV hb
    obtain ⟨k, hk, rfl, hA, hM, hZ, hN, hV, hb⟩ := hrel
    go_wp2_with ((with_reducible refine wpl_guard ?_); first | (refine wpl_load_arr rfl 23 _ rfl _ rfl _ _ hA _ _ uPoly sPoly ?_))
    refine (k2.out _).mono ?_
    rintro e u2 ⟨rfl, hn⟩
    replace hA := hA.keep hn
    replace hM := hM.keep hn
    replace hZ := hZ.keep hn
    replace hN := hN.keep hn
    replace hV := hV.keep hn
    replace hb := below_step hb hn
    clear hn
    by_cases hlt : k < L
    · have hlt2 : (k : Int) ≤ (L : Int) - 1 := by omega
      have hk64 : (k : Int) < 64 := by omega
      have hy0 := (hrg.out k).1
      have hy1 := (hrg.out k).2
      have t3 := k3.out k
      have t4 := k4.out k
      obtain ⟨H1, hH1⟩ : ∃ H, aclN p ms aa ys k = H := ⟨_, rfl⟩
      obtain ⟨H2, hH2⟩ : ∃ H, stpN p ms ys k = H := ⟨_, rfl⟩
      obtain ⟨H3, hH3⟩ : ∃ H, aclN p ms aa ys (k + 1) = H := ⟨_, rfl⟩
      obtain ⟨H4, hH4⟩ : ∃ H, stpN p ms ys (k + 1) = H := ⟨_, rfl⟩
      rw [hH1, hH2, hH3] at t3
      rw [hH2, hH4] at t4
      rw [hH1] at hN
      rw [hH2] at hV
      have c3 := Lib.hid t3
      have c4 := Lib.hid t4
      have hH3H := Lib.hid hH3
      have hH4H := Lib.hid hH4
      clear t3 t4 hH1 hH2 hH3 hH4
      go_upto_region 5 with (fail)
      refine gen_region (ws := w) (w := _) (B := w.heap.size) (by kernel_rfl) (by kernel_rfl) (by kernel_rfl) (by kernel_rfl)
          (fun i => ([fun v _ => v = .int .i64 p, fun v _ => v = .agg (u8s 64 (cf H1)), fun v _ => v = .agg (u8s 64 (cf H2)), fun v _ => v = .int .i64 k, fun v _ => v = .pointer (some ⟨w.heap.size, k, none⟩), fun v _ => v = .int .u8 (cf aa k), fun v _ => v = .int .i64 (cf aa k), fun v _ => v = .agg (u8s 64 (cf H3)), fun _ _ => True] : List (Value → World → Prop)).getD i (fun _ _ => True))
          (fun i => ([true, false, true, true, false, false, false, false, true] : List Bool).getD i true)
          1 (fun k => [8].getD k 0) (fun k => [7].getD k 0) (fun k => [9].getD k 0) (fun k => [30].getD k 0) (fun k => [gN].getD k 0) (fun k => [64].getD k 0) (fun k => [(cf H3)].getD k (fun _ => 0)) (fun k => [(cf H1)].getD k (fun _ => 0)) (fun k => [23].getD k 0) hb (Nat.le_refl _)
          (fun w' => Blk w' (w.heap.size) (u8s 64 (cf aa)) 23 ∧ Blk w' (w.heap.size + 1 + 1) (u8s 64 (cf ms)) 23 ∧ Blk w' (w.heap.size + 1 + 1 + 1) (u8s 64 fun _ => 0) 23 ∧ Blk w' (gV) (u8s 64 (cf H2)) 23 ∧ True) ⟨hA.drew, hM.drew, hZ.drew, hV.drew, trivial⟩ (fun w1 w2 h hb => ⟨h.1.keep hb, h.2.1.keep hb, h.2.2.1.keep hb, h.2.2.2.1.keep hb, trivial⟩) ?_ ?_ ?_ ?_ ?_ ?_ ?_
      · intro k hk w1 cs h
        rcases k with _|k
        · exact ⟨h.1.setRow_other (by simp only [List.getD_cons_zero, List.getD_cons_succ] <;> omega), h.2.1.setRow_other (by simp only [List.getD_cons_zero, List.getD_cons_succ] <;> omega), h.2.2.1.setRow_other (by simp only [List.getD_cons_zero, List.getD_cons_succ] <;> omega), h.2.2.2.1.setRow_other (by simp only [List.getD_cons_zero, List.getD_cons_succ] <;> omega), trivial⟩
        · omega
      · intro i v w1 w2 h hb
        rcases i with _|_|_|_|_|_|_|_|_|i
        · exact h
        · exact h
        · exact h
        · exact h
        · exact h
        · exact h
        · exact h
        · exact h
        · exact h
        · exact h
      · intro k hk
        rcases k with _|k
        · kernel_rfl
        · omega
      · intro k hk
        rcases k with _|k
        · refine ⟨?_, (by kernel_rfl), hN, fun v w' h => h, by decide, ?_⟩
          · simp only [List.getD_cons_zero, List.getD_cons_succ] <;> omega
          · intro k' hk' hne
            rcases k' with _|k'
            all_goals first | omega | exact absurd rfl hne | (refine ⟨?_, by decide⟩; simp only [List.getD_cons_zero, List.getD_cons_succ]; omega)
        · omega
      · kernel_rfl
      · intro i o ho hz a w2 hBs hSx hBl hrd hpar
        rcases i with _|_|_|_|_|_|_|_|_|i
        · obtain rfl := Option.some.inj ho
          have e0 : a.eval (.tmp 0) = .int .i64 p := hpar 0 _ (by kernel_rfl) (by kernel_rfl)
          exact wpv_of (wp_move _ _ rfl e0) (fun _ _ => rfl)
        · obtain rfl := Option.some.inj ho
          exact wpv_of (wp_loadB 23 _ rfl _ (hpar 9 (.pointer (some ⟨gN, 0, none⟩)) (by kernel_rfl) (by kernel_rfl)) _ _ (hN.keep (hBl rfl)) _ _ uPoly sPoly) (fun _ _ => rfl)
        · obtain rfl := Option.some.inj ho
          exact wpv_of (wp_loadB 23 _ rfl _ (hpar 10 (.pointer (some ⟨gV, 0, none⟩)) (by kernel_rfl) (by kernel_rfl)) _ _ hSx.2.2.2.1 _ _ uPoly sPoly) (fun _ _ => rfl)
        · obtain rfl := Option.some.inj ho
          have e11 : a.eval (.tmp 11) = .int .i64 k := hpar 11 _ (by kernel_rfl) (by kernel_rfl)
          exact wpv_of (wp_move _ _ rfl e11) (fun _ _ => rfl)
        · obtain rfl := Option.some.inj ho
          obtain ⟨_, e26⟩ : ∃ _w : World, a.eval (.tmp 26) = .int .i64 k := (hrd 3 _ 26 rfl rfl (by kernel_rfl) (by kernel_rfl) (by decide)).1
          exact wpv_of (wp_index_arr 23 5 64 _ _ rfl uPoly sByte (w.heap.size) k .i64 (hpar 5 _ (by kernel_rfl) (by kernel_rfl)) e26 (by omega)) (fun _ _ => rfl)
        · obtain rfl := Option.some.inj ho
          obtain ⟨_, e27⟩ : ∃ _w : World, a.eval (.tmp 27) = .pointer (some ⟨w.heap.size, k, none⟩) := (hrd 4 _ 27 rfl rfl (by kernel_rfl) (by kernel_rfl) (by decide)).1
          exact wpv_of (wp_load_cell 5 _ rfl _ e27 .u8 uByte _ (by rw [hSx.1.cell, u8s_get _ (by omega)])) (fun _ _ => rfl)
        · obtain rfl := Option.some.inj ho
          obtain ⟨_, e28⟩ : ∃ _w : World, a.eval (.tmp 28) = .int .u8 (cf aa k) := (hrd 5 _ 28 rfl rfl (by kernel_rfl) (by kernel_rfl) (by decide)).1
          exact wpv_of (wp_conv_u8 5 2 _ rfl _ e28 hy0 (by omega) uByte uInt) (fun _ _ => rfl)
        · obtain rfl := Option.some.inj ho
          obtain ⟨_, e23⟩ : ∃ _w : World, a.eval (.tmp 23) = .int .i64 p := (hrd 0 _ 23 rfl rfl (by kernel_rfl) (by kernel_rfl) (by decide)).1
          obtain ⟨_, e24⟩ : ∃ _w : World, a.eval (.tmp 24) = .agg (u8s 64 (cf H1)) := (hrd 1 _ 24 rfl rfl (by kernel_rfl) (by kernel_rfl) (by decide)).1
          obtain ⟨_, e25⟩ : ∃ _w : World, a.eval (.tmp 25) = .agg (u8s 64 (cf H2)) := (hrd 2 _ 25 rfl rfl (by kernel_rfl) (by kernel_rfl) (by decide)).1
          obtain ⟨_, e29⟩ : ∃ _w : World, a.eval (.tmp 29) = .int .i64 (cf aa k) := (hrd 6 _ 29 rfl rfl (by kernel_rfl) (by kernel_rfl) (by decide)).1
          exact wpv_call 42 [.tmp 23, .tmp 24, .tmp 25, .tmp 29] _ rfl [.int .i64 p, .agg (u8s 64 (cf H1)), .agg (u8s 64 (cf H2)), .int .i64 (cf aa k)] (by simp only [List.map_cons, List.map_nil, e23, e24, e25, e29]) Try.call42 ((c3.out w2).mono fun _ _ ⟨h1, h2⟩ => ⟨_, h1, rfl, h2⟩)
        · exact absurd rfl (hz 0 (by decide))
        · simp at ho
      intro vals xE hBx hSx hS0 hcs hrs
      obtain ⟨_, e0⟩ : ∃ _w : World, vals 0 = .int .i64 p := hcs 0 (by simp) (by decide)
      obtain ⟨_, e1⟩ : ∃ _w : World, vals 1 = .agg (u8s 64 (cf H1)) := hcs 1 (by simp) (by decide)
      obtain ⟨_, e2⟩ : ∃ _w : World, vals 2 = .agg (u8s 64 (cf H2)) := hcs 2 (by simp) (by decide)
      obtain ⟨_, e3⟩ : ∃ _w : World, vals 3 = .int .i64 k := hcs 3 (by simp) (by decide)
      obtain ⟨_, e4⟩ : ∃ _w : World, vals 4 = .pointer (some ⟨w.heap.size, k, none⟩) := hcs 4 (by simp) (by decide)
      obtain ⟨_, e5⟩ : ∃ _w : World, vals 5 = .int .u8 (cf aa k) := hcs 5 (by simp) (by decide)
      obtain ⟨_, e6⟩ : ∃ _w : World, vals 6 = .int .i64 (cf aa k) := hcs 6 (by simp) (by decide)
      obtain ⟨_, e7⟩ : ∃ _w : World, vals 7 = .agg (u8s 64 (cf H3)) := hcs 7 (by simp) (by decide)
      have hsE0 : Blk xE (gN) (u8s 64 (cf H3)) 23 := hrs 0 (by decide)
      simp only [List.length_cons, List.length_nil, Nat.zero_add, Nat.reduceAdd, List.replicate, putAll, if_true, Act.put, List.setIfInBounds_toArray, List.set_cons_zero, List.set_cons_succ, e0, e1, e2, e3, e4, e5, e6, e7]
      replace hA := hSx.1
      replace hM := hSx.2.1
      replace hZ := hSx.2.2.1
      replace hV := hSx.2.2.2.1
      clear hcs hrs hS0 hSx e0 e1 e2 e3 e4 e5 e6 e7
      have hN9 := hsE0
      replace hN := hN9
      clear hN9 hsE0
      replace hb := hBx
      clear hBx
      go_wp2_with ((with_reducible refine wpl_guard ?_); first | (refine wpl_load_arr rfl 23 _ rfl _ rfl _ _ hV _ _ uPoly sPoly ?_) | (refine wpl_load_arr rfl 23 _ rfl _ rfl _ _ hM _ _ uPoly sPoly ?_))
      refine (c4.out _).mono ?_
      rintro e u3 ⟨rfl, hn⟩
      replace hA := hA.keep hn
      replace hM := hM.keep hn
      replace hZ := hZ.keep hn
      replace hN := hN.keep hn
      replace hV := hV.keep hn
      replace hb := below_step hb hn
      clear hn
      go_wp2_with ((with_reducible refine wpl_guard ?_); first | (refine wpl_store_arr rfl 23 _ _ rfl _ rfl _ rfl _ _ hV sPoly (by simp only [u8s_size]) (u8s_oneCell _ _) ?_))
      go_roundw
      case rel => exact ⟨k + 1, by omega, by go_num, hA.setRow_other (by omega), hM.setRow_other (by omega), hZ.setRow_other (by omega), by rw [hH3H.out]; exact hN.setRow_other (by omega), by rw [hH4H.out]; exact hV.setRow_same, below_setRow hb (by omega) _⟩
      case measure => simp [intOf] <;> omega
    · have hlt2 : ¬ (k : Int) ≤ (L : Int) - 1 := by omega
      obtain rfl : k = L := by omega
      go_wp2_with ((with_reducible refine wpl_guard ?_); first | (refine wpl_load_arr rfl 23 _ rfl _ rfl _ _ hN _ _ uPoly sPoly ?_) | (refine wpl_store_arr rfl 23 _ _ rfl _ rfl _ rfl _ _ hZ sPoly (by simp only [u8s_size]) (u8s_oneCell _ _) ?_))
      exact bodyPost_ret (res_c rfl rfl (hZ.setRow_same (cs := u8s 64 (cf (aclN p ms aa ys k)))) uPoly sPoly) rfl ⟨rfl, below_setRow hb (by omega) _⟩

set_option maxHeartbeats 1000000 in
theorem step_any (va vm : Value) (xs ms : List Int) (p : Int) (w : World) (hp : Pr p) (ha : IsRow w va xs) (hm : IsRow w vm ms) (hxa : Po p xs) (hxm : Po p ms) (hne : ms ≠ []) (la : xs.length ≤ 64) (lm : ms.length ≤ 64) :
    Calls Try.prog 67 #[.int .i64 p, va, vm] w fun e w' => ∃ v, e = .returned v ∧ IsRow w' v (stp p ms xs) ∧ Below w.heap.size w w' := by
  have hp2 := hp.pos
  obtain ⟨P, hP⟩ := Int.eq_ofNat_of_zero_le (show 0 ≤ p by omega)
  have hPle : P ≤ 1000000000000 := by omega
  have hT := letter_Po hp2.1
  have s1 := Lib.hid (fun va vb w (h1 : IsRow w va [0, 1]) (h2 : IsRow w vb xs) => times_any va vb _ _ p w hp h1 h2 hT.md hxa.md (by simp) (by omega))
  have s2 := fun va vm w (h1 : IsRow w va xs) (h2 : IsRow w vm ms) => power_any va vm xs ms P p w hp h1 h2 hxa hxm hne (by omega) lm hPle
  have hpw := powp_Po hp hxa hxm hne P
  have hml := mulp_length_le p [0, 1] xs
  have s3 := fun va vb w (h1 : IsRow w va (mulp p [0, 1] xs)) (h2 : IsRow w vb (powp p xs P ms)) => combine_any va vb _ _ p 1 w hp h1 h2 (mulp_Po (by omega) _ _).md hpw.1.md (by decide) (by decide) (by simp only [List.length_cons, List.length_nil] at hml; omega) (by have := hpw.2; omega)
  have hal := addp_length p (mulp p [0, 1] xs) (powp p xs P ms) 1
  have s4 := fun va vb w (h1 : IsRow w va (addp p (mulp p [0, 1] xs) (powp p xs P ms) 1)) (h2 : IsRow w vb ms) => rest_any va vb _ ms p w hp h1 h2 (addp_Po (by omega) _ _ _) hxm hne (by have := hpw.2; simp only [List.length_cons, List.length_nil] at hml; omega) (by omega)
  unfold stp
  rw [show p.toNat = P by omega]
  rw [← hP] at s2
  have k2 := Lib.hid s2
  have k3 := Lib.hid s3
  have k4 := Lib.hid s4
  have kx := Lib.hid ha
  have km := Lib.hid hm
  clear s2 s3 s4 hpw hml hal hT hPle hp hxa hxm hne la lm ha hm hP
  go_enter Try.func67, Try.ntmps67
  go_wp2_with fail
  refine (letter_any _).mono ?_
  rintro e w1 ⟨v1, rfl, hr, hb⟩
  have kl := Lib.hid hr
  replace kx := Lib.hid (kx.out.below hb)
  replace km := Lib.hid (km.out.below hb)
  clear hr
  go_wp2_with fail
  refine (s1.out _ _ _ kl.out kx.out).mono ?_
  rintro e w2 ⟨v2, rfl, hr, hn⟩
  have kt := Lib.hid hr
  replace kx := Lib.hid (kx.out.below hn)
  replace km := Lib.hid (km.out.below hn)
  replace hb := below_step hb hn
  clear hr hn kl
  go_wp2_with fail
  refine (k2.out _ _ _ kx.out km.out).mono ?_
  rintro e w3 ⟨v3, rfl, hr, hn⟩
  have kq := Lib.hid hr
  replace kt := Lib.hid (kt.out.below hn)
  replace km := Lib.hid (km.out.below hn)
  replace hb := below_step hb hn
  clear hr hn kx
  go_wp2_with fail
  refine (k3.out _ _ _ kt.out kq.out).mono ?_
  rintro e w4 ⟨v4, rfl, hr, hn⟩
  have ks := Lib.hid hr
  replace km := Lib.hid (km.out.below hn)
  replace hb := below_step hb hn
  clear hr hn kt kq
  go_wp2_with fail
  refine (k4.out _ _ _ ks.out km.out).mono ?_
  rintro e w5 ⟨v5, rfl, hr, hn⟩
  have kr := Lib.hid hr
  replace hb := below_step hb hn
  clear hr hn
  go_wp2_with fail
  go_ret
  exact ⟨_, rfl, kr.out, hb⟩

set_option maxHeartbeats 1000000 in
theorem act_any (va vx vm : Value) (aa xs ms : List Int) (p : Int) (w : World) (hp : Pr p) (ha : IsRow w va aa) (hx : IsRow w vx xs) (hm : IsRow w vm ms) (hpa : Po p aa) (hpx : Po p xs) (hpm : Po p ms) (hne : ms ≠ []) (la : aa.length ≤ 64) (lx : xs.length ≤ 64) (lm : ms.length ≤ 64) :
    Calls Try.prog 32 #[.int .i64 p, va, vx, vm] w fun e w' => ∃ v, e = .returned v ∧ IsRow w' v (aclN p ms aa (rst p xs ms) aa.length) ∧ Below w.heap.size w w' := by
  have hp2 := hp.pos
  have s1 := Lib.hid (fun w (h1 : IsRow w vx xs) (h2 : IsRow w vm ms) => rest_any vx vm xs ms p w hp h1 h2 hpx hpm hne (by omega) (by omega))
  have hyP := rst_Po hp hpx hpm hne
  have hyl := rst_lt hp hpx hpm hne
  obtain ⟨ys, hys⟩ : ∃ ys, rst p xs ms = ys := ⟨_, rfl⟩
  rw [hys] at s1 hyP hyl
  rw [hys]
  have hS := fun k => stpN_ok hp hyP hyl hpm hne k
  have hO := fun k => aclN_ok (a := aa) hp hyP hyl hpm hne k
  have s2 : ∀ k va vb w, IsRow w va (aclN p ms aa ys k) → IsRow w vb (stpN p ms ys k) → Calls Try.prog 46 #[.int .i64 p, va, vb, .int .i64 (cf aa k)] w fun e w' => ∃ v, e = .returned v ∧ IsRow w' v (aclN p ms aa ys (k + 1)) ∧ Below w.heap.size w w' := fun k va vb w h1 h2 =>
    combine_any va vb _ _ p _ w hp h1 h2 (hO k).1.md (hS k).1.md (by have := hpa.md k; omega) (by have := hpa.md k; omega) (by have := (hO k).2; omega) (by have := (hS k).2; omega)
  have s3 : ∀ k va vm w, IsRow w va (stpN p ms ys k) → IsRow w vm ms → Calls Try.prog 67 #[.int .i64 p, va, vm] w fun e w' => ∃ v, e = .returned v ∧ IsRow w' v (stpN p ms ys (k + 1)) ∧ Below w.heap.size w w' := fun k va vm w h1 h2 =>
    step_any va vm _ ms p w hp h1 h2 (hS k).1 hpm hne (by have := (hS k).2; omega) lm
  have k2 := Lib.hid s2
  have k3 := Lib.hid s3
  have km := Lib.hid hm
  have kx := Lib.hid hx
  obtain ⟨oa, ca, rfl, hlea, hcap, hca⟩ := ha
  have hcaH := Lib.hid hca
  unfold maxLen at hcap
  clear s2 s3 hS hO hyP hyl hys hp hpa hpx hpm hne lx lm hm hx hca
  generalize aa.length = L at *
  go_enter Try.func32, Try.ntmps32
  go_wp2_with fail
  refine (s1.out _ kx.out km.out).mono ?_
  rintro e w1 ⟨v1, rfl, hr, hb⟩
  have ky := Lib.hid hr
  replace km := Lib.hid (km.out.below hb)
  clear hr kx
  go_wp2_with fail
  go_loopw [2, 9, 18] (fun vx vo i wr => ∃ k : Nat, k ≤ L ∧ i = .int .i64 k ∧ Hid (IsRow wr vx (stpN p ms ys k)) ∧ Hid (IsRow wr vo (aclN p ms aa ys k)) ∧ Hid (IsRow wr vm ms) ∧ Below w.heap.size w wr) (fun _ _ i _ => L - (intOf i).toNat)
  case atStart => exact ⟨0, by omega, rfl, ky, Lib.hid (IsRow_nil _), km, hb⟩
  case round =>
    clear ky km hb
    obtain ⟨k, hk, rfl, ky, ko, km, hb⟩ := hrel
    by_cases hlt : k < L
    · obtain ⟨b1, o1, rfl, hc1⟩ := hcaH.out (by omega)
      have hc0 := hc1 k hlt
      have c1 : wr.cell? ⟨b1, o1 + k, none⟩ = some (.int .i64 (cf aa k)) := by rw [hb.cell (block_lt_of_cell hc0)]; exact hc0
      clear hc1 hc0
      go_wp2_with fail
      refine (k2.out k _ _ _ ko.out ky.out).mono ?_
      rintro e w2 ⟨v2, rfl, hr, hn⟩
      have kn := Lib.hid hr
      replace ky := Lib.hid (ky.out.below hn)
      replace km := Lib.hid (km.out.below hn)
      replace hb := below_step hb hn
      clear hr hn ko c1
      go_wp2_with fail
      refine (k3.out k _ _ _ ky.out km.out).mono ?_
      rintro e w3 ⟨v3, rfl, hr, hn⟩
      have kz := Lib.hid hr
      replace kn := Lib.hid (kn.out.below hn)
      replace km := Lib.hid (km.out.below hn)
      replace hb := below_step hb hn
      clear hr hn ky
      go_wp2_with fail
      go_roundw
      case rel => exact ⟨k + 1, by omega, by go_num, kz, kn, km, hb⟩
      case measure => simp [intOf] <;> omega
    · obtain rfl : k = L := by omega
      go_wp2_with fail
      go_ret
      exact ⟨_, rfl, ko.out, hb⟩
def aorA (b c : Bool) (M : List Int) : Nat → Int := if b then (if c then cf M else fun _ => 0) else fun _ => 0

set_option maxRecDepth 20000 in
set_option maxHeartbeats 2000000 in
theorem specActOnResidue_any (f g fm : Nat → Int) (p : Int) (b c : Bool) (M : List Int) (w : World) (hf : By f) (hg : By g) (hh : By fm) (hb : Good p [fm, f, g] ↔ b = true) (hc : decide (Mon (mkp 64 fm)) = c) (hM : aclN p (mkp 64 fm) (mkp 64 f) (rst p (mkp 64 g) (mkp 64 fm)) (mkp 64 f).length = M) :
    Calls Try.prog 9 #[.int .i64 p, .agg (u8s 64 f), .agg (u8s 64 g), .agg (u8s 64 fm)] w fun e w' => e = .returned (.tuple #[.agg (u8s 64 (aorA b c M)), .int .i64 (modC b c)]) ∧ Below w.heap.size w w' := by
  have hfH := Lib.hid hf
  have hgH := Lib.hid hg
  have hhH := Lib.hid hh
  have hbH := Lib.hid hb
  have hcH := Lib.hid hc
  have hMH := Lib.hid hM
  clear hf hg hh hb hc hM
  obtain ⟨hb, hA, hX, hM1, hZ⟩ := boxes4 w (u8s 64 f) (u8s 64 g) (u8s 64 fm) (u8s 64 fun _ => 0) 23 23 23 23
  go_enter Try.func9, Try.ntmps9
  go_wp2_with ((with_reducible refine wpl_guard ?_); first | (refine wpl_alloc_arr rfl 23 rfl _ zPoly ?_) | (refine wpl_load_arr rfl 23 _ rfl _ rfl _ _ hA _ _ uPoly sPoly ?_) | (refine wpl_load_arr rfl 23 _ rfl _ rfl _ _ hX _ _ uPoly sPoly ?_) | (refine wpl_load_arr rfl 23 _ rfl _ rfl _ _ hM1 _ _ uPoly sPoly ?_) | (refine wpl_buildSlice_polys rfl 29 23 2 _ rfl Try.underlying29 sPoly zPoly [f, g] rfl (by decide) (by decide) rfl ?_))
  refine (l02Modulus_lit fm [f, g] 2 128 rfl rfl (by omega) p _ _ _ (Blk.newAt (by simp) _ _) hhH.out (by2 hfH.out hgH.out) b c hbH.out hcH.out).mono ?_
  rintro e u0 ⟨rfl, hn⟩
  replace hA := (hA.alloc _).keep hn
  replace hX := (hX.alloc _).keep hn
  replace hM1 := (hM1.alloc _).keep hn
  replace hZ := (hZ.alloc _).keep hn
  replace hb := below_step hb (below_step (below_new _ _) hn)
  clear hn
  cases b
  · go_wp2_with ((with_reducible refine wpl_guard ?_); first | (refine wpl_build_zero rfl 23 64 5 rfl _ uPoly sByte zPoly ?_) | (refine wpl_store_arr rfl 23 _ _ rfl _ rfl _ rfl _ _ hZ sPoly (by simp only [u8s_size]) (u8s_oneCell _ _) ?_))
    exact bodyPost_ret (res_ct (x := .int .i64 1) rfl rfl (hZ.setRow_same (cs := u8s 64 fun _ => 0)) uPoly sPoly rfl) rfl ⟨rfl, below_setRow hb (by omega) _⟩
  cases c
  · go_wp2_with ((with_reducible refine wpl_guard ?_); first | (refine wpl_build_zero rfl 23 64 5 rfl _ uPoly sByte zPoly ?_) | (refine wpl_store_arr rfl 23 _ _ rfl _ rfl _ rfl _ _ hZ sPoly (by simp only [u8s_size]) (u8s_oneCell _ _) ?_))
    exact bodyPost_ret (res_ct (x := .int .i64 2) rfl rfl (hZ.setRow_same (cs := u8s 64 fun _ => 0)) uPoly sPoly rfl) rfl ⟨rfl, below_setRow hb (by omega) _⟩
  have hG := hbH.out.2 (by first | rfl | trivial)
  have hx0 : P64 p (mkp 64 f) := hG.p64 (f := f) (by simp) hfH.out
  have hx1 : P64 p (mkp 64 g) := hG.p64 (f := g) (by simp) hgH.out
  have hx2 : P64 p (mkp 64 fm) := hG.p64 (f := fm) (by simp) hhH.out
  have hne := (of_decide_eq_true hcH.out : Mon (mkp 64 fm)).ne
  have hMM := hMH.out
  have hac := fun w => l04Act_any (mkp 64 f) (mkp 64 g) (mkp 64 fm) p w hx0 hx1 hx2 hne
  rw [hMM, ← u8s_mkp, ← u8s_mkp, ← u8s_mkp] at hac
  have hacH := Lib.hid hac
  clear hac hMM hne hx0 hx1 hx2 hG hMH hcH hbH
  go_wp2_with ((with_reducible refine wpl_guard ?_); first | (refine wpl_load_arr rfl 23 _ rfl _ rfl _ _ hA _ _ uPoly sPoly ?_) | (refine wpl_load_arr rfl 23 _ rfl _ rfl _ _ hX _ _ uPoly sPoly ?_) | (refine wpl_load_arr rfl 23 _ rfl _ rfl _ _ hM1 _ _ uPoly sPoly ?_))
  refine (hacH.out _).mono ?_
  rintro e u1 ⟨rfl, hn⟩
  replace hA := hA.keep hn
  replace hX := hX.keep hn
  replace hM1 := hM1.keep hn
  replace hZ := hZ.keep hn
  replace hb := below_step hb hn
  clear hn
  go_wp2_with ((with_reducible refine wpl_guard ?_); first | (refine wpl_store_arr rfl 23 _ _ rfl _ rfl _ rfl _ _ hZ sPoly (by simp only [u8s_size]) (u8s_oneCell _ _) ?_))
  exact bodyPost_ret (res_ct (x := .int .i64 0) rfl rfl (hZ.setRow_same (cs := u8s 64 (cf M))) uPoly sPoly rfl) rfl ⟨rfl, below_setRow hb (by omega) _⟩

set_option maxRecDepth 20000 in
set_option maxHeartbeats 2000000 in
theorem implActOnResidue_any (f g fm : Nat → Int) (p : Int) (b c : Bool) (M : List Int) (w : World) (hf : By f) (hg : By g) (hh : By fm) (hb : Good p [fm, f, g] ↔ b = true) (hc : decide (Mon (mkp 64 fm)) = c) (hM : aclN p (mkp 64 fm) (mkp 64 f) (rst p (mkp 64 g) (mkp 64 fm)) (mkp 64 f).length = M) :
    Calls Try.prog 11 #[.int .i64 p, .agg (u8s 64 f), .agg (u8s 64 g), .agg (u8s 64 fm)] w fun e w' => e = .returned (.tuple #[.agg (u8s 64 (aorA b c M)), .int .i64 (modC b c)]) ∧ Below w.heap.size w w' := by
  have hfH := Lib.hid hf
  have hgH := Lib.hid hg
  have hhH := Lib.hid hh
  have hbH := Lib.hid hb
  have hcH := Lib.hid hc
  have hMH := Lib.hid hM
  clear hf hg hh hb hc hM
  obtain ⟨hb, hA, hX, hM1, hZ⟩ := boxes4 w (u8s 64 f) (u8s 64 g) (u8s 64 fm) (u8s 64 fun _ => 0) 23 23 23 23
  go_enter Try.func11, Try.ntmps11
  go_wp2_with ((with_reducible refine wpl_guard ?_); first | (refine wpl_alloc_arr rfl 23 rfl _ zPoly ?_) | (refine wpl_load_arr rfl 23 _ rfl _ rfl _ _ hA _ _ uPoly sPoly ?_) | (refine wpl_load_arr rfl 23 _ rfl _ rfl _ _ hX _ _ uPoly sPoly ?_) | (refine wpl_load_arr rfl 23 _ rfl _ rfl _ _ hM1 _ _ uPoly sPoly ?_) | (refine wpl_buildSlice_polys rfl 29 23 2 _ rfl Try.underlying29 sPoly zPoly [f, g] rfl (by decide) (by decide) rfl ?_))
  refine (modulusCode_lit fm [f, g] 2 128 rfl rfl (by omega) (by omega) p _ _ (Blk.newAt (by simp) _ _) hhH.out (by2 hfH.out hgH.out) b c hbH.out hcH.out).mono ?_
  rintro e u0 ⟨rfl, hn⟩
  replace hb := below_lit hb (by simp only [size_alloc]; omega) (by simp) hn
  replace hA := hA.lit (by simp) hn
  replace hX := hX.lit (by simp) hn
  replace hM1 := hM1.lit (by simp) hn
  replace hZ := hZ.lit (by simp) hn
  clear hn
  cases b
  · go_wp2_with ((with_reducible refine wpl_guard ?_); first | (refine wpl_build_zero rfl 23 64 5 rfl _ uPoly sByte zPoly ?_) | (refine wpl_store_arr rfl 23 _ _ rfl _ rfl _ rfl _ _ hZ sPoly (by simp only [u8s_size]) (u8s_oneCell _ _) ?_))
    exact bodyPost_ret (res_ct (x := .int .i64 1) rfl rfl (hZ.setRow_same (cs := u8s 64 fun _ => 0)) uPoly sPoly rfl) rfl ⟨rfl, below_setRow hb (by omega) _⟩
  cases c
  · go_wp2_with ((with_reducible refine wpl_guard ?_); first | (refine wpl_build_zero rfl 23 64 5 rfl _ uPoly sByte zPoly ?_) | (refine wpl_store_arr rfl 23 _ _ rfl _ rfl _ rfl _ _ hZ sPoly (by simp only [u8s_size]) (u8s_oneCell _ _) ?_))
    exact bodyPost_ret (res_ct (x := .int .i64 2) rfl rfl (hZ.setRow_same (cs := u8s 64 fun _ => 0)) uPoly sPoly rfl) rfl ⟨rfl, below_setRow hb (by omega) _⟩
  have hG := hbH.out.2 (by first | rfl | trivial)
  have hx0 : P64 p (mkp 64 f) := hG.p64 (f := f) (by simp) hfH.out
  have hx1 : P64 p (mkp 64 g) := hG.p64 (f := g) (by simp) hgH.out
  have hx2 : P64 p (mkp 64 fm) := hG.p64 (f := fm) (by simp) hhH.out
  have hne := (of_decide_eq_true hcH.out : Mon (mkp 64 fm)).ne
  have hMM := hMH.out
  have hac := fun va vx vm w (h1 : IsRow w va (mkp 64 f)) (h2 : IsRow w vx (mkp 64 g)) (h3 : IsRow w vm (mkp 64 fm)) => act_any va vx vm _ _ _ p w hx0.pr h1 h2 h3 hx0.po hx1.po hx2.po hne hx0.le hx1.le hx2.le
  rw [hMM] at hac
  have hMP : P64 p M := by
    have h := aclN_ok (a := mkp 64 f) hx0.pr (rst_Po hx0.pr hx1.po hx2.po hne) (rst_lt hx0.pr hx1.po hx2.po hne) hx2.po hne (mkp 64 f).length
    rw [hMM] at h
    exact ⟨hx0.pr, h.1, by have := h.2; have := hx2.le; omega⟩
  have htd := fun v w (h : IsRow w v M) => told_any v M w h (fun i => By_of_Po hx0.pr hMP.po i)
  have hML : M.length ≤ 64 := hMP.le
  rw [show toldF M = cf M from if_pos hML, show toldC M = 0 from if_pos hML] at htd
  have hacH := Lib.hid hac
  have htdH := Lib.hid htd
  clear hac htd hML hMP hMM hne hx0 hx1 hx2 hG hMH hcH hbH
  go_upto_region 4 with (fail)
  refine gen_region (ws := w) (w := _) (B := w.heap.size) (by kernel_rfl) (by kernel_rfl) (by kernel_rfl) (by kernel_rfl)
      (fun i => ([fun v _ => v = .int .i64 p, fun v _ => v = .agg (u8s 64 f), fun v w => IsRow w v (mkp 64 f), fun v _ => v = .agg (u8s 64 g), fun v w => IsRow w v (mkp 64 g), fun v _ => v = .agg (u8s 64 fm), fun v w => IsRow w v (mkp 64 fm), fun v w => IsRow w v (M), fun v _ => v = .tuple #[.agg (u8s 64 (cf M)), .int .i64 0], fun v _ => v = .agg (u8s 64 (cf M)), fun v _ => v = .int .i64 0, fun _ _ => True, fun v _ => v = .int .i64 0] : List (Value → World → Prop)).getD i (fun _ _ => True))
      (fun i => ([true, true, false, true, false, true, false, false, false, true, true, true, true] : List Bool).getD i true)
      1 (fun k => [11].getD k 0) (fun k => [9].getD k 0) (fun k => [8].getD k 0) (fun k => [30].getD k 0) (fun k => [w.heap.size + 1 + 1 + 1].getD k 0) (fun k => [64].getD k 0) (fun k => [(cf M)].getD k (fun _ => 0)) (fun k => [(fun _ => 0)].getD k (fun _ => 0)) (fun k => [23].getD k 0) hb (Nat.le_refl _)
      (fun w' => Blk w' (w.heap.size) (u8s 64 f) 23 ∧ Blk w' (w.heap.size + 1) (u8s 64 g) 23 ∧ Blk w' (w.heap.size + 1 + 1) (u8s 64 fm) 23 ∧ True) ⟨hA.drew, hX.drew, hM1.drew, trivial⟩ (fun w1 w2 h hb => ⟨h.1.keep hb, h.2.1.keep hb, h.2.2.1.keep hb, trivial⟩) ?_ ?_ ?_ ?_ ?_ ?_ ?_
  · intro k hk w1 cs h
    rcases k with _|k
    · exact ⟨h.1.setRow_other (by simp only [List.getD_cons_zero, List.getD_cons_succ] <;> omega), h.2.1.setRow_other (by simp only [List.getD_cons_zero, List.getD_cons_succ] <;> omega), h.2.2.1.setRow_other (by simp only [List.getD_cons_zero, List.getD_cons_succ] <;> omega), trivial⟩
    · omega
  · intro i v w1 w2 h hb
    rcases i with _|_|_|_|_|_|_|_|_|_|_|_|_|i
    · exact h
    · exact h
    · exact (show IsRow w1 v (mkp 64 f) from h).below hb
    · exact h
    · exact (show IsRow w1 v (mkp 64 g) from h).below hb
    · exact h
    · exact (show IsRow w1 v (mkp 64 fm) from h).below hb
    · exact (show IsRow w1 v (M) from h).below hb
    · exact h
    · exact h
    · exact h
    · exact h
    · exact h
    · exact h
  · intro k hk
    rcases k with _|k
    · kernel_rfl
    · omega
  · intro k hk
    rcases k with _|k
    · refine ⟨?_, (by kernel_rfl), hZ, fun v w' h => h, by decide, ?_⟩
      · simp only [List.getD_cons_zero, List.getD_cons_succ] <;> omega
      · intro k' hk' hne
        rcases k' with _|k'
        all_goals first | omega | exact absurd rfl hne | (refine ⟨?_, by decide⟩; simp only [List.getD_cons_zero, List.getD_cons_succ]; omega)
    · omega
  · kernel_rfl
  · intro i o ho hz a w2 hBs hSx hBl hrd hpar
    rcases i with _|_|_|_|_|_|_|_|_|_|_|_|_|i
    · obtain rfl := Option.some.inj ho
      have e0 : a.eval (.tmp 0) = .int .i64 p := hpar 0 _ (by kernel_rfl) (by kernel_rfl)
      exact wpv_of (wp_move _ _ rfl e0) (fun _ _ => rfl)
    · obtain rfl := Option.some.inj ho
      exact wpv_of (wp_loadB 23 _ rfl _ (hpar 5 (.pointer (some ⟨w.heap.size, 0, none⟩)) (by kernel_rfl) (by kernel_rfl)) _ _ hSx.1 _ _ uPoly sPoly) (fun _ _ => rfl)
    · obtain rfl := Option.some.inj ho
      obtain ⟨_, e22⟩ : ∃ _w : World, a.eval (.tmp 22) = .agg (u8s 64 f) := (hrd 1 _ 22 rfl rfl (by kernel_rfl) (by kernel_rfl) (by decide)).1
      exact wpv_call 33 [.tmp 22] _ rfl [.agg (u8s 64 f)] (by simp only [List.map_cons, List.map_nil, e22]) Try.call33 (rowOf_any f w2 hfH.out.on)
    · obtain rfl := Option.some.inj ho
      exact wpv_of (wp_loadB 23 _ rfl _ (hpar 6 (.pointer (some ⟨w.heap.size + 1, 0, none⟩)) (by kernel_rfl) (by kernel_rfl)) _ _ hSx.2.1 _ _ uPoly sPoly) (fun _ _ => rfl)
    · obtain rfl := Option.some.inj ho
      obtain ⟨_, e24⟩ : ∃ _w : World, a.eval (.tmp 24) = .agg (u8s 64 g) := (hrd 3 _ 24 rfl rfl (by kernel_rfl) (by kernel_rfl) (by decide)).1
      exact wpv_call 33 [.tmp 24] _ rfl [.agg (u8s 64 g)] (by simp only [List.map_cons, List.map_nil, e24]) Try.call33 (rowOf_any g w2 hgH.out.on)
    · obtain rfl := Option.some.inj ho
      exact wpv_of (wp_loadB 23 _ rfl _ (hpar 7 (.pointer (some ⟨w.heap.size + 1 + 1, 0, none⟩)) (by kernel_rfl) (by kernel_rfl)) _ _ hSx.2.2.1 _ _ uPoly sPoly) (fun _ _ => rfl)
    · obtain rfl := Option.some.inj ho
      obtain ⟨_, e26⟩ : ∃ _w : World, a.eval (.tmp 26) = .agg (u8s 64 fm) := (hrd 5 _ 26 rfl rfl (by kernel_rfl) (by kernel_rfl) (by decide)).1
      exact wpv_call 33 [.tmp 26] _ rfl [.agg (u8s 64 fm)] (by simp only [List.map_cons, List.map_nil, e26]) Try.call33 (rowOf_any fm w2 hhH.out.on)
    · obtain rfl := Option.some.inj ho
      obtain ⟨_, e21⟩ : ∃ _w : World, a.eval (.tmp 21) = .int .i64 p := (hrd 0 _ 21 rfl rfl (by kernel_rfl) (by kernel_rfl) (by decide)).1
      have h23 : (fun v w => IsRow w v (mkp 64 f)) (a.eval (.tmp 23)) w2 := (hrd 2 _ 23 rfl rfl (by kernel_rfl) (by kernel_rfl) (by decide)).2 rfl
      generalize e23 : a.eval (.tmp 23) = v23 at h23
      have h25 : (fun v w => IsRow w v (mkp 64 g)) (a.eval (.tmp 25)) w2 := (hrd 4 _ 25 rfl rfl (by kernel_rfl) (by kernel_rfl) (by decide)).2 rfl
      generalize e25 : a.eval (.tmp 25) = v25 at h25
      have h27 : (fun v w => IsRow w v (mkp 64 fm)) (a.eval (.tmp 27)) w2 := (hrd 6 _ 27 rfl rfl (by kernel_rfl) (by kernel_rfl) (by decide)).2 rfl
      generalize e27 : a.eval (.tmp 27) = v27 at h27
      exact wpv_call 32 [.tmp 21, .tmp 23, .tmp 25, .tmp 27] _ rfl [.int .i64 p, v23, v25, v27] (by simp only [List.map_cons, List.map_nil, e21, e23, e25, e27]) Try.call32 (hacH.out _ _ _ w2 h23 h25 h27)
    · obtain rfl := Option.some.inj ho
      have h28 : (fun v w => IsRow w v (M)) (a.eval (.tmp 28)) w2 := (hrd 7 _ 28 rfl rfl (by kernel_rfl) (by kernel_rfl) (by decide)).2 rfl
      generalize e28 : a.eval (.tmp 28) = v28 at h28
      exact wpv_call 31 [.tmp 28] _ rfl [v28] (by simp only [List.map_cons, List.map_nil, e28]) Try.call31 ((htdH.out _ w2 h28).mono fun _ _ ⟨h1, h2⟩ => ⟨_, h1, rfl, h2⟩)
    · obtain rfl := Option.some.inj ho
      obtain ⟨_, e29⟩ : ∃ _w : World, a.eval (.tmp 29) = .tuple #[.agg (u8s 64 (cf M)), .int .i64 0] := (hrd 8 _ 29 rfl rfl (by kernel_rfl) (by kernel_rfl) (by decide)).1
      exact wpv_of (wp_extract _ 0 #[.agg (u8s 64 (cf M)), .int .i64 0] _ rfl e29 rfl) (fun _ _ => rfl)
    · obtain rfl := Option.some.inj ho
      obtain ⟨_, e29⟩ : ∃ _w : World, a.eval (.tmp 29) = .tuple #[.agg (u8s 64 (cf M)), .int .i64 0] := (hrd 8 _ 29 rfl rfl (by kernel_rfl) (by kernel_rfl) (by decide)).1
      exact wpv_of (wp_extract _ 1 #[.agg (u8s 64 (cf M)), .int .i64 0] _ rfl e29 rfl) (fun _ _ => rfl)
    · exact absurd rfl (hz 0 (by decide))
    · obtain rfl := Option.some.inj ho
      obtain ⟨_, e31⟩ : ∃ _w : World, a.eval (.tmp 31) = .int .i64 0 := (hrd 10 _ 31 rfl rfl (by kernel_rfl) (by kernel_rfl) (by decide)).1
      exact wpv_of (wp_assign _ _ rfl e31) (fun _ _ => rfl)
    · simp at ho
  intro vals xE hBx hSx hS0 hcs hrs
  obtain ⟨_, e0⟩ : ∃ _w : World, vals 0 = .int .i64 p := hcs 0 (by simp) (by decide)
  obtain ⟨_, e1⟩ : ∃ _w : World, vals 1 = .agg (u8s 64 f) := hcs 1 (by simp) (by decide)
  obtain ⟨_, e3⟩ : ∃ _w : World, vals 3 = .agg (u8s 64 g) := hcs 3 (by simp) (by decide)
  obtain ⟨_, e5⟩ : ∃ _w : World, vals 5 = .agg (u8s 64 fm) := hcs 5 (by simp) (by decide)
  obtain ⟨_, e8⟩ : ∃ _w : World, vals 8 = .tuple #[.agg (u8s 64 (cf M)), .int .i64 0] := hcs 8 (by simp) (by decide)
  obtain ⟨_, e9⟩ : ∃ _w : World, vals 9 = .agg (u8s 64 (cf M)) := hcs 9 (by simp) (by decide)
  obtain ⟨_, e10⟩ : ∃ _w : World, vals 10 = .int .i64 0 := hcs 10 (by simp) (by decide)
  obtain ⟨_, e12⟩ : ∃ _w : World, vals 12 = .int .i64 0 := hcs 12 (by simp) (by decide)
  have hsE0 : Blk xE (w.heap.size + 1 + 1 + 1) (u8s 64 (cf M)) 23 := hrs 0 (by decide)
  simp only [List.length_cons, List.length_nil, Nat.zero_add, Nat.reduceAdd, List.replicate, putAll, if_true, Act.put, List.setIfInBounds_toArray, List.set_cons_zero, List.set_cons_succ, e0, e1, e3, e5, e8, e9, e10, e12]
  replace hA := hSx.1
  replace hX := hSx.2.1
  replace hM1 := hSx.2.2.1
  clear hcs hrs hS0 hSx e0 e1 e3 e5 e8 e9 e10 e12
  go_wp2_with fail
  exact bodyPost_ret (res_ct (x := .int .i64 0) rfl rfl hsE0 uPoly sPoly rfl) rfl ⟨rfl, hBx⟩

theorem ActOnResidue_pair (p : Int) (f g fm : Nat → Int) (_ : (Lit.int .i64 p).wf = true) (hf : By f) (hg : By g) (hh : By fm) : ∃ (r0 : Nat → Int) (r1 : Int),
    (∀ w, Calls Try.prog 9 #[.int .i64 p, .agg (u8s 64 f), .agg (u8s 64 g), .agg (u8s 64 fm)] w fun e w' => e = .returned (.tuple #[.agg (u8s 64 r0), .int .i64 r1]) ∧ Below w.heap.size w w') ∧
    (∀ w, Calls Try.prog 11 #[.int .i64 p, .agg (u8s 64 f), .agg (u8s 64 g), .agg (u8s 64 fm)] w fun e w' => e = .returned (.tuple #[.agg (u8s 64 r0), .int .i64 r1]) ∧ Below w.heap.size w w') := by
  obtain ⟨b, hb⟩ := dec_true (Good p [fm, f, g])
  exact ⟨_, _, fun w => specActOnResidue_any f g fm p b _ _ w hf hg hh hb rfl rfl, fun w => implActOnResidue_any f g fm p b _ _ w hf hg hh hb rfl rfl⟩
end Go.Proofs.Ytionaenmjndncab

/- Several texts in one: A7, S5, S6, S7. -/
import Derived.Test.YtnkkkgaojhkniabRws
import Derived.Test.YtnkkkgaojhkniabPure
import Derived.Test.YtnkkkgaojhkniabSpc
import Derived.Test.YtnkkkgaojhkniabRegs
set_option linter.unusedVariables false
set_option linter.unusedSimpArgs false
/- Walks: a row put in the place of T. -/
namespace Go.Proofs.Ytnkkkgaojhkniab
open Go.RowKit
theorem zInt : (Try.prog.info? 2).bind (·.zero) = some (.int .i64 0) := by kernel_rfl
theorem uInt : Try.prog.underlying 2 = some (.int .i64) := by kernel_rfl
theorem cmpp_len_le (p : Int) (ys : List Int) : ∀ xs : List Int, (cmpp p ys xs).length ≤ xs.length * ys.length + 1
  | [] => by show ([] : List Int).length ≤ _; simp
  | c :: tl => by
    have ih := cmpp_len_le p ys tl
    have h1 := addp_length p (mulp p (cmpp p ys tl) ys) [c] 1
    have h2 := mulp_length_le p (cmpp p ys tl) ys
    show (addp p (mulp p (cmpp p ys tl) ys) [c] 1).length ≤ _
    have h3 : max (mulp p (cmpp p ys tl) ys).length [c].length ≤ (mulp p (cmpp p ys tl) ys).length + 1 := Nat.max_le.2 ⟨by omega, by simp⟩
    by_cases e : (mulp p (cmpp p ys tl) ys).length = 0
    · rw [e] at h1 h3; simp at h1; omega
    · have h4 : max (mulp p (cmpp p ys tl) ys).length [c].length = (mulp p (cmpp p ys tl) ys).length := by rw [Nat.max_eq_left]; simp; omega
      rw [h4] at h1
      rw [List.length_cons, Nat.add_mul, Nat.one_mul]
      omega

end Go.Proofs.Ytnkkkgaojhkniab

/- Walks: the greatest common divisor of arrays with its factors. -/
namespace Go.Proofs.Ytnkkkgaojhkniab
open Go.RowKit

theorem boxes5 (w : World) (A B C D E : Array Value) (t u v x y : TypeId) : ∃ w', w' = (((((w.alloc (.cells A t)).alloc (.cells B u)).alloc (.cells C v)).alloc (.cells D x)).alloc (.cells E y)) ∧ Below w.heap.size w w' ∧ Blk w' w.heap.size A t ∧
    Blk w' (w.heap.size + 1) B u ∧ Blk w' (w.heap.size + 1 + 1) C v ∧ Blk w' (w.heap.size + 1 + 1 + 1) D x ∧ Blk w' (w.heap.size + 1 + 1 + 1 + 1) E y := by
  obtain ⟨h0, h1, h2, h3, h4⟩ := boxes4 w A B C D t u v x
  exact ⟨_, rfl, h0.alloc (by simp; omega) _, h1.alloc _, h2.alloc _, h3.alloc _, h4.alloc _, Blk.newAt (by simp) _ _⟩
theorem P64.mulp {p : Int} {xs ys : List Int} (hx : P64 p xs) (h : (mulp p xs ys).length ≤ 64) : P64 p (mulp p xs ys) := ⟨hx.pr, mulp_Po (by have := hx.pr.pos; omega) _ _, h⟩
theorem prod_le {p : Int} {xs ys : List Int} (hx : P64 p xs) (hy : Po p ys) (h : xs = [] ∨ ys = [] ∨ xs.length + ys.length ≤ 65) : (mulp p xs ys).length ≤ 64 := by
  rcases mulp_len hx.pr hx.po hy with h1 | ⟨h1, h2, h3⟩
  · rw [h1]; simp
  · rcases h with h | h | h
    · exact absurd h h1
    · exact absurd h h2
    · omega
structure BzP (p : Int) (A B : Nat) (a b u x v y : List Int) : Prop where
  s : BzS p A B a b u x v y
  pr : Pr p
  hA : A ≤ 64
  hB : B ≤ 64
theorem BzP.a {p : Int} {A B : Nat} {a b u x v y : List Int} (h : BzP p A B a b u x v y) : P64 p a := ⟨h.pr, h.s.pa, h.s.la⟩
theorem BzP.b {p : Int} {A B : Nat} {a b u x v y : List Int} (h : BzP p A B a b u x v y) : P64 p b := ⟨h.pr, h.s.pb, h.s.lb⟩
theorem BzP.u {p : Int} {A B : Nat} {a b u x v y : List Int} (h : BzP p A B a b u x v y) : P64 p u := ⟨h.pr, h.s.pu, h.s.iu.hl⟩
theorem BzP.v {p : Int} {A B : Nat} {a b u x v y : List Int} (h : BzP p A B a b u x v y) : P64 p v := ⟨h.pr, h.s.pv, h.s.iv.hl⟩
theorem BzP.x {p : Int} {A B : Nat} {a b u x v y : List Int} (h : BzP p A B a b u x v y) : P64 p x := ⟨h.pr, h.s.px, by rcases h.s.iu.hx with h | h; (· rw [h]; simp); exact h.1⟩
theorem BzP.y {p : Int} {A B : Nat} {a b u x v y : List Int} (h : BzP p A B a b u x v y) : P64 p y := ⟨h.pr, h.s.py, by rcases h.s.iv.hx with h | h; (· rw [h]; simp); exact h.1⟩

set_option maxRecDepth 20000 in
set_option maxHeartbeats 4000000 in
theorem l01Bezout_any (xs ys : List Int) (p : Int) (w : World) (hx : P64 p xs) (hy : P64 p ys) (hne : xs ≠ [] ∨ ys ≠ []) :
    Calls Try.prog 92 #[.int .i64 p, .agg (u8s 64 (cf xs)), .agg (u8s 64 (cf ys))] w fun e w' => e = .returned (.tuple #[.agg (u8s 64 (cf (bez p xs ys).1)), .agg (u8s 64 (cf (bez p xs ys).2.1)), .agg (u8s 64 (cf (bez p xs ys).2.2))]) ∧ Below w.heap.size w w' := by
  have hs : BzP p xs.length ys.length xs ys [1] [] [] [1] := ⟨BzS.start hx.pr hx.po hy.po hx.le hy.le hne, hx.pr, hx.le, hy.le⟩
  obtain ⟨R, hR⟩ : ∃ R, bzl p (ys.length + 1) xs ys [1] [] [] [1] = R := ⟨_, rfl⟩
  have hez : bez p xs ys = (scl p R.1 (invp p (cf R.1 (R.1.length - 1))), scl p R.2.1 (invp p (cf R.1 (R.1.length - 1))), scl p R.2.2 (invp p (cf R.1 (R.1.length - 1)))) := by unfold bez; rw [hR]
  rw [hez]
  have hsH := Lib.hid hs
  have hRH := Lib.hid hR
  have hpH := Lib.hid hx.pr
  clear hx hy hne hs hez hR
  obtain ⟨w0, hw0, hb, hA, hD, hE, hF, hG⟩ := boxes5 w (u8s 64 (cf xs)) (u8s 64 (cf ys)) (u8s 64 fun _ => 0) (u8s 64 fun _ => 0) (u8s 64 fun _ => 0) 25 25 25 25 25
  have hw0H := Lib.hid hw0.symm
  clear hw0
  obtain ⟨A, hlA⟩ : ∃ A, xs.length = A := ⟨_, rfl⟩
  obtain ⟨B, hlB⟩ : ∃ B, ys.length = B := ⟨_, rfl⟩
  rw [hlA, hlB] at hsH
  rw [hlB] at hRH
  have hBl := Lib.hid hlB
  clear hlA hlB
  go_enter Try.func92, Try.ntmps92
  go_wp2_with ((with_reducible refine wpl_guard ?_); first | (refine wpl_alloc_arr rfl 25 rfl _ zPoly ?_))
  rw [hw0H.out]
  clear hw0H
  refine (l01One_any _).mono ?_
  rintro e w1 ⟨rfl, hn⟩
  replace hA := hA.keep hn
  replace hD := hD.keep hn
  replace hE := hE.keep hn
  replace hF := hF.keep hn
  replace hG := hG.keep hn
  replace hb := below_step hb hn
  clear hn
  go_wp2_with ((with_reducible refine wpl_guard ?_); first | (refine wpl_build_zero rfl 25 64 5 rfl _ uPoly sByte zPoly ?_))
  refine (l01One_any _).mono ?_
  rintro e w2 ⟨rfl, hn⟩
  replace hA := hA.keep hn
  replace hD := hD.keep hn
  replace hE := hE.keep hn
  replace hF := hF.keep hn
  replace hG := hG.keep hn
  replace hb := below_step hb hn
  clear hn
  have hgg := hG.lt
  generalize hg0 : w2.heap.size = g0 at hgg
  have hg0H := Lib.hid hg0
  clear hg0
  have hcv : (fun _ => (0 : Int)) = cf [] := cf_void.symm
  have hcvH := Lib.hid hcv
  clear hcv
  go_wp2_with ((with_reducible refine wpl_guard ?_); first | (refine wpl_new4 25 zPoly sPoly _ _ rfl rfl rfl rfl rfl _ _ rfl rfl rfl rfl rfl _ _ rfl rfl rfl rfl rfl _ _ rfl rfl rfl rfl rfl rfl (cf [1]) rfl rfl (fun _ => 0) rfl rfl (fun _ => 0) rfl rfl (cf [1]) rfl ?_; rw [hg0H.out]; intro w3 hn hU hX hV hY; rw [hcvH.out] at hX hV))
  replace hA := hA.keep (hg0H.out ▸ hn)
  replace hD := hD.keep (hg0H.out ▸ hn)
  replace hE := hE.keep (hg0H.out ▸ hn)
  replace hF := hF.keep (hg0H.out ▸ hn)
  replace hG := hG.keep (hg0H.out ▸ hn)
  replace hb := below_step hb (hg0H.out ▸ hn)
  clear hn hg0H hcvH
  simp only [Act.put, List.setIfInBounds_toArray, List.set_cons_zero, List.set_cons_succ]
  go_loopw [29] (fun _ wr => ∃ (n : Nat) (la lb lu lx lv ly : List Int), lb.length < n ∧ n ≤ 65 ∧ Hid (BzP p A B la lb lu lx lv ly) ∧ Hid (bzl p n la lb lu lx lv ly = R) ∧ Blk wr (w.heap.size) (u8s 64 (cf la)) 25 ∧ Blk wr (w.heap.size + 1) (u8s 64 (cf lb)) 25 ∧ Blk wr (g0) (u8s 64 (cf lu)) 25 ∧ Blk wr (g0 + 1) (u8s 64 (cf lx)) 25 ∧ Blk wr (g0 + 1 + 1) (u8s 64 (cf lv)) 25 ∧ Blk wr (g0 + 1 + 1 + 1) (u8s 64 (cf ly)) 25 ∧ Blk wr (w.heap.size + 1 + 1) (u8s 64 fun _ => 0) 25 ∧ Blk wr (w.heap.size + 1 + 1 + 1) (u8s 64 fun _ => 0) 25 ∧ Blk wr (w.heap.size + 1 + 1 + 1 + 1) (u8s 64 fun _ => 0) 25 ∧ Below w.heap.size w wr) (fun _ wr => polyLen wr (w.heap.size + 1))
  case atStart => exact ⟨B + 1, xs, ys, [1], [], [], [1], by have := hBl.out; omega, by have := hsH.out.hB; omega, hsH, hRH, hA, hD, hU, hX, hV, hY, hE, hF, hG, hb⟩
  case round =>
    clear hsH hRH hb hA hD hU hX hV hY hE hF hG hBl
    obtain ⟨n, la, lb, lu, lx, lv, ly, hn1, hn2, hS, hRr, hA, hD, hU, hX, hV, hY, hE, hF, hG, hb⟩ := hrel
    obtain ⟨k, rfl⟩ : ∃ k, n = k + 1 := ⟨n - 1, by omega⟩
    have hlb := hS.out.s.lb
    have hpl := Lib.hid (polyLen_blk hD hS.out.b.po.tr hS.out.b.le)
    by_cases h0 : lb.length = 0
    · have hbn : lb = [] := List.length_eq_zero_iff.1 h0
      subst hbn
      have hR2 : R = (la, lu, lv) := hRr.out.symm.trans (bzl_stop _ _ _ _ _ _ _)
      subst hR2
      have hane : la ≠ [] := hS.out.s.ne.resolve_right (fun h => h rfl)
      have hal : 0 < la.length := List.length_pos_iff.2 hane
      obtain ⟨M, hM⟩ : ∃ M, la.length = M + 1 := ⟨la.length - 1, by omega⟩
      have hM64 : (M : Int) < 64 := by have := hS.out.a.le; omega
      have hi := invp_spec hS.out.pr (hS.out.s.pa.lead hane) (hS.out.s.pa.md _).2
      have hiv := fun w => l01Inverse_any p (cf la (la.length - 1)) w hS.out.pr (hS.out.s.pa.lead hane) (hS.out.s.pa.md _).2
      have hp2 := hS.out.pr.pos
      obtain ⟨iv, hive⟩ : ∃ iv, invp p (cf la (la.length - 1)) = iv := ⟨_, rfl⟩
      rw [hive] at hiv hi
      have hi0 := hi.1
      have hi1 := hi.2.1
      have hs1 := fun w => l01Add_zero la p iv w hS.out.a (by omega) (by omega)
      have hs2 := fun w => l01Add_zero lu p iv w hS.out.u (by omega) (by omega)
      have hs3 := fun w => l01Add_zero lv p iv w hS.out.v (by omega) (by omega)
      obtain ⟨s1, hs1e⟩ : ∃ s, addp p [] la iv = s := ⟨_, rfl⟩
      obtain ⟨s2, hs2e⟩ : ∃ s, addp p [] lu iv = s := ⟨_, rfl⟩
      obtain ⟨s3, hs3e⟩ : ∃ s, addp p [] lv iv = s := ⟨_, rfl⟩
      rw [hs1e] at hs1
      rw [hs2e] at hs2
      rw [hs3e] at hs3
      rw [show la.length - 1 = M by omega] at hiv
      have HF := Lib.hid (And.intro hive (And.intro hs1e (And.intro hs2e hs3e)))
      have HC := Lib.hid (And.intro hiv (And.intro hs1 (And.intro hs2 hs3)))
      have hMi : (la.length : Int) - 1 = (M : Int) := by omega
      have hMiH := Lib.hid hMi
      clear hi hiv hs1 hs2 hs3 hs1e hs2e hs3e hive hane hal hM hMi hRr h0
      have hb0 : ¬ 0 ≤ (([] : List Int).length : Int) - 1 := by simp
      go_wp2_with ((with_reducible refine wpl_guard ?_); first | (refine wpl_load_arr rfl 25 _ rfl _ rfl _ _ hD _ _ uPoly sPoly ?_))
      refine (l01Deg_list p [] _ hS.out.b).mono ?_
      rintro e w4 ⟨rfl, hn⟩
      replace hA := hA.keep hn
      replace hD := hD.keep hn
      replace hU := hU.keep hn
      replace hX := hX.keep hn
      replace hV := hV.keep hn
      replace hY := hY.keep hn
      replace hE := hE.keep hn
      replace hF := hF.keep hn
      replace hG := hG.keep hn
      replace hb := below_step hb hn
      clear hn
      go_wp2_with ((with_reducible refine wpl_guard ?_); first | (refine wpl_load_arr rfl 25 _ rfl _ rfl _ _ hA _ _ uPoly sPoly ?_))
      refine (l01Deg_list p la _ hS.out.a).mono ?_
      rintro e w5 ⟨rfl, hn⟩
      replace hA := hA.keep hn
      replace hD := hD.keep hn
      replace hU := hU.keep hn
      replace hX := hX.keep hn
      replace hV := hV.keep hn
      replace hY := hY.keep hn
      replace hE := hE.keep hn
      replace hF := hF.keep hn
      replace hG := hG.keep hn
      replace hb := below_step hb hn
      clear hn
      rw [hMiH.out]
      have c0 : w5.cell? ⟨w.heap.size, M, none⟩ = some (.int .u8 (cf la M)) := by rw [hA.cell, u8s_get _ (by omega)]
      go_wp2_with fail
      refine (HC.out.1 _).mono ?_
      rintro e w6 ⟨rfl, rfl⟩
      clear c0
      go_upto_region 14 with (fail)
      refine gen_region (ws := w) (w := _) (B := w.heap.size) (by kernel_rfl) (by kernel_rfl) (by kernel_rfl) (by kernel_rfl)
          (fun i => ([fun v _ => v = .int .i64 p, fun v _ => v = .agg (u8s 64 fun _ => 0), fun v _ => v = .agg (u8s 64 (cf la)), fun v _ => v = .int .i64 iv, fun v _ => v = .agg (u8s 64 (cf s1)), fun v _ => v = .int .i64 p, fun v _ => v = .agg (u8s 64 fun _ => 0), fun v _ => v = .agg (u8s 64 (cf lu)), fun v _ => v = .int .i64 iv, fun v _ => v = .agg (u8s 64 (cf s2)), fun v _ => v = .int .i64 p, fun v _ => v = .agg (u8s 64 fun _ => 0), fun v _ => v = .agg (u8s 64 (cf lv)), fun v _ => v = .int .i64 iv, fun v _ => v = .agg (u8s 64 (cf s3)), fun _ _ => True, fun _ _ => True, fun _ _ => True] : List (Value → World → Prop)).getD i (fun _ _ => True))
          (fun i => ([true, true, true, true, false, true, true, true, true, false, true, true, true, true, false, true, true, true] : List Bool).getD i true)
          3 (fun k => [15, 16, 17].getD k 0) (fun k => [4, 9, 14].getD k 0) (fun k => [6, 7, 8].getD k 0) (fun k => [75, 80, 85].getD k 0) (fun k => [w.heap.size + 1 + 1, w.heap.size + 1 + 1 + 1, w.heap.size + 1 + 1 + 1 + 1].getD k 0) (fun k => [64, 64, 64].getD k 0) (fun k => [(cf s1), (cf s2), (cf s3)].getD k (fun _ => 0)) (fun k => [(fun _ => 0), (fun _ => 0), (fun _ => 0)].getD k (fun _ => 0)) (fun k => [25, 25, 25].getD k 0) hb (Nat.le_refl _)
          (fun w' => Blk w' (w.heap.size) (u8s 64 (cf la)) 25 ∧ Blk w' (g0) (u8s 64 (cf lu)) 25 ∧ Blk w' (g0 + 1 + 1) (u8s 64 (cf lv)) 25 ∧ True) ⟨hA.drew, hU.drew, hV.drew, trivial⟩ (fun w1 w2 h hb => ⟨h.1.keep hb, h.2.1.keep hb, h.2.2.1.keep hb, trivial⟩) ?_ ?_ ?_ ?_ ?_ ?_ ?_
      · intro k hk w1 cs h
        rcases k with _|_|_|k
        · exact ⟨h.1.setRow_other (by simp only [List.getD_cons_zero, List.getD_cons_succ] <;> omega), h.2.1.setRow_other (by simp only [List.getD_cons_zero, List.getD_cons_succ] <;> omega), h.2.2.1.setRow_other (by simp only [List.getD_cons_zero, List.getD_cons_succ] <;> omega), trivial⟩
        · exact ⟨h.1.setRow_other (by simp only [List.getD_cons_zero, List.getD_cons_succ] <;> omega), h.2.1.setRow_other (by simp only [List.getD_cons_zero, List.getD_cons_succ] <;> omega), h.2.2.1.setRow_other (by simp only [List.getD_cons_zero, List.getD_cons_succ] <;> omega), trivial⟩
        · exact ⟨h.1.setRow_other (by simp only [List.getD_cons_zero, List.getD_cons_succ] <;> omega), h.2.1.setRow_other (by simp only [List.getD_cons_zero, List.getD_cons_succ] <;> omega), h.2.2.1.setRow_other (by simp only [List.getD_cons_zero, List.getD_cons_succ] <;> omega), trivial⟩
        · omega
      · intro i v w1 w2 h hb
        rcases i with _|_|_|_|_|_|_|_|_|_|_|_|_|_|_|_|_|_|i
        · exact h
        · exact h
        · exact h
        · exact h
        · exact h
        · exact h
        · exact h
        · exact h
        · exact h
        · exact h
        · exact h
        · exact h
        · exact h
        · exact h
        · exact h
        · exact h
        · exact h
        · exact h
        · exact h
      · intro k hk
        rcases k with _|_|_|k
        · kernel_rfl
        · kernel_rfl
        · kernel_rfl
        · omega
      · intro k hk
        rcases k with _|_|_|k
        · refine ⟨?_, (by kernel_rfl), hE, fun v w' h => h, by decide, ?_⟩
          · simp only [List.getD_cons_zero, List.getD_cons_succ] <;> omega
          · intro k' hk' hne
            rcases k' with _|_|_|k'
            all_goals first | omega | exact absurd rfl hne | (refine ⟨?_, by decide⟩; simp only [List.getD_cons_zero, List.getD_cons_succ]; omega)
        · refine ⟨?_, (by kernel_rfl), hF, fun v w' h => h, by decide, ?_⟩
          · simp only [List.getD_cons_zero, List.getD_cons_succ] <;> omega
          · intro k' hk' hne
            rcases k' with _|_|_|k'
            all_goals first | omega | exact absurd rfl hne | (refine ⟨?_, by decide⟩; simp only [List.getD_cons_zero, List.getD_cons_succ]; omega)
        · refine ⟨?_, (by kernel_rfl), hG, fun v w' h => h, by decide, ?_⟩
          · simp only [List.getD_cons_zero, List.getD_cons_succ] <;> omega
          · intro k' hk' hne
            rcases k' with _|_|_|k'
            all_goals first | omega | exact absurd rfl hne | (refine ⟨?_, by decide⟩; simp only [List.getD_cons_zero, List.getD_cons_succ]; omega)
        · omega
      · kernel_rfl
      · intro i o ho hz a w2 hBs hSx hBl hrd hpar
        rcases i with _|_|_|_|_|_|_|_|_|_|_|_|_|_|_|_|_|_|i
        · obtain rfl := Option.some.inj ho
          have e0 : a.eval (.tmp 0) = .int .i64 p := hpar 0 _ (by kernel_rfl) (by kernel_rfl)
          exact wpv_of (wp_move _ _ rfl e0) (fun _ _ => rfl)
        · obtain rfl := Option.some.inj ho
          exact wpv_of (wp_build_zeroB 25 64 5 rfl uPoly sByte zPoly) (fun _ _ => rfl)
        · obtain rfl := Option.some.inj ho
          exact wpv_of (wp_loadB 25 _ rfl _ (hpar 4 (.pointer (some ⟨w.heap.size, 0, none⟩)) (by kernel_rfl) (by kernel_rfl)) _ _ hSx.1 _ _ uPoly sPoly) (fun _ _ => rfl)
        · obtain rfl := Option.some.inj ho
          have e21 : a.eval (.tmp 21) = .int .i64 iv := hpar 21 _ (by kernel_rfl) (by kernel_rfl)
          exact wpv_of (wp_move _ _ rfl e21) (fun _ _ => rfl)
        · obtain rfl := Option.some.inj ho
          obtain ⟨_, e71⟩ : ∃ _w : World, a.eval (.tmp 71) = .int .i64 p := (hrd 0 _ 71 rfl rfl (by kernel_rfl) (by kernel_rfl) (by decide)).1
          obtain ⟨_, e72⟩ : ∃ _w : World, a.eval (.tmp 72) = .agg (u8s 64 fun _ => 0) := (hrd 1 _ 72 rfl rfl (by kernel_rfl) (by kernel_rfl) (by decide)).1
          obtain ⟨_, e73⟩ : ∃ _w : World, a.eval (.tmp 73) = .agg (u8s 64 (cf la)) := (hrd 2 _ 73 rfl rfl (by kernel_rfl) (by kernel_rfl) (by decide)).1
          obtain ⟨_, e74⟩ : ∃ _w : World, a.eval (.tmp 74) = .int .i64 iv := (hrd 3 _ 74 rfl rfl (by kernel_rfl) (by kernel_rfl) (by decide)).1
          exact wpv_call 78 [.tmp 71, .tmp 72, .tmp 73, .tmp 74] _ rfl [.int .i64 p, .agg (u8s 64 fun _ => 0), .agg (u8s 64 (cf la)), .int .i64 iv] (by simp only [List.map_cons, List.map_nil, e71, e72, e73, e74]) Try.call78 ((HC.out.2.1 w2).mono fun _ _ ⟨h1, h2⟩ => ⟨_, h1, rfl, h2⟩)
        · obtain rfl := Option.some.inj ho
          have e0 : a.eval (.tmp 0) = .int .i64 p := hpar 0 _ (by kernel_rfl) (by kernel_rfl)
          exact wpv_of (wp_move _ _ rfl e0) (fun _ _ => rfl)
        · obtain rfl := Option.some.inj ho
          exact wpv_of (wp_build_zeroB 25 64 5 rfl uPoly sByte zPoly) (fun _ _ => rfl)
        · obtain rfl := Option.some.inj ho
          exact wpv_of (wp_loadB 25 _ rfl _ (hpar 9 (.pointer (some ⟨g0, 0, none⟩)) (by kernel_rfl) (by kernel_rfl)) _ _ hSx.2.1 _ _ uPoly sPoly) (fun _ _ => rfl)
        · obtain rfl := Option.some.inj ho
          have e21 : a.eval (.tmp 21) = .int .i64 iv := hpar 21 _ (by kernel_rfl) (by kernel_rfl)
          exact wpv_of (wp_move _ _ rfl e21) (fun _ _ => rfl)
        · obtain rfl := Option.some.inj ho
          obtain ⟨_, e76⟩ : ∃ _w : World, a.eval (.tmp 76) = .int .i64 p := (hrd 5 _ 76 rfl rfl (by kernel_rfl) (by kernel_rfl) (by decide)).1
          obtain ⟨_, e77⟩ : ∃ _w : World, a.eval (.tmp 77) = .agg (u8s 64 fun _ => 0) := (hrd 6 _ 77 rfl rfl (by kernel_rfl) (by kernel_rfl) (by decide)).1
          obtain ⟨_, e78⟩ : ∃ _w : World, a.eval (.tmp 78) = .agg (u8s 64 (cf lu)) := (hrd 7 _ 78 rfl rfl (by kernel_rfl) (by kernel_rfl) (by decide)).1
          obtain ⟨_, e79⟩ : ∃ _w : World, a.eval (.tmp 79) = .int .i64 iv := (hrd 8 _ 79 rfl rfl (by kernel_rfl) (by kernel_rfl) (by decide)).1
          exact wpv_call 78 [.tmp 76, .tmp 77, .tmp 78, .tmp 79] _ rfl [.int .i64 p, .agg (u8s 64 fun _ => 0), .agg (u8s 64 (cf lu)), .int .i64 iv] (by simp only [List.map_cons, List.map_nil, e76, e77, e78, e79]) Try.call78 ((HC.out.2.2.1 w2).mono fun _ _ ⟨h1, h2⟩ => ⟨_, h1, rfl, h2⟩)
        · obtain rfl := Option.some.inj ho
          have e0 : a.eval (.tmp 0) = .int .i64 p := hpar 0 _ (by kernel_rfl) (by kernel_rfl)
          exact wpv_of (wp_move _ _ rfl e0) (fun _ _ => rfl)
        · obtain rfl := Option.some.inj ho
          exact wpv_of (wp_build_zeroB 25 64 5 rfl uPoly sByte zPoly) (fun _ _ => rfl)
        · obtain rfl := Option.some.inj ho
          exact wpv_of (wp_loadB 25 _ rfl _ (hpar 11 (.pointer (some ⟨g0 + 1 + 1, 0, none⟩)) (by kernel_rfl) (by kernel_rfl)) _ _ hSx.2.2.1 _ _ uPoly sPoly) (fun _ _ => rfl)
        · obtain rfl := Option.some.inj ho
          have e21 : a.eval (.tmp 21) = .int .i64 iv := hpar 21 _ (by kernel_rfl) (by kernel_rfl)
          exact wpv_of (wp_move _ _ rfl e21) (fun _ _ => rfl)
        · obtain rfl := Option.some.inj ho
          obtain ⟨_, e81⟩ : ∃ _w : World, a.eval (.tmp 81) = .int .i64 p := (hrd 10 _ 81 rfl rfl (by kernel_rfl) (by kernel_rfl) (by decide)).1
          obtain ⟨_, e82⟩ : ∃ _w : World, a.eval (.tmp 82) = .agg (u8s 64 fun _ => 0) := (hrd 11 _ 82 rfl rfl (by kernel_rfl) (by kernel_rfl) (by decide)).1
          obtain ⟨_, e83⟩ : ∃ _w : World, a.eval (.tmp 83) = .agg (u8s 64 (cf lv)) := (hrd 12 _ 83 rfl rfl (by kernel_rfl) (by kernel_rfl) (by decide)).1
          obtain ⟨_, e84⟩ : ∃ _w : World, a.eval (.tmp 84) = .int .i64 iv := (hrd 13 _ 84 rfl rfl (by kernel_rfl) (by kernel_rfl) (by decide)).1
          exact wpv_call 78 [.tmp 81, .tmp 82, .tmp 83, .tmp 84] _ rfl [.int .i64 p, .agg (u8s 64 fun _ => 0), .agg (u8s 64 (cf lv)), .int .i64 iv] (by simp only [List.map_cons, List.map_nil, e81, e82, e83, e84]) Try.call78 ((HC.out.2.2.2 w2).mono fun _ _ ⟨h1, h2⟩ => ⟨_, h1, rfl, h2⟩)
        · exact absurd rfl (hz 0 (by decide))
        · exact absurd rfl (hz 1 (by decide))
        · exact absurd rfl (hz 2 (by decide))
        · simp at ho
      intro vals xE hBx hSx hS0 hcs hrs
      obtain ⟨_, e0⟩ : ∃ _w : World, vals 0 = .int .i64 p := hcs 0 (by simp) (by decide)
      obtain ⟨_, e1⟩ : ∃ _w : World, vals 1 = .agg (u8s 64 fun _ => 0) := hcs 1 (by simp) (by decide)
      obtain ⟨_, e2⟩ : ∃ _w : World, vals 2 = .agg (u8s 64 (cf la)) := hcs 2 (by simp) (by decide)
      obtain ⟨_, e3⟩ : ∃ _w : World, vals 3 = .int .i64 iv := hcs 3 (by simp) (by decide)
      obtain ⟨_, e4⟩ : ∃ _w : World, vals 4 = .agg (u8s 64 (cf s1)) := hcs 4 (by simp) (by decide)
      obtain ⟨_, e5⟩ : ∃ _w : World, vals 5 = .int .i64 p := hcs 5 (by simp) (by decide)
      obtain ⟨_, e6⟩ : ∃ _w : World, vals 6 = .agg (u8s 64 fun _ => 0) := hcs 6 (by simp) (by decide)
      obtain ⟨_, e7⟩ : ∃ _w : World, vals 7 = .agg (u8s 64 (cf lu)) := hcs 7 (by simp) (by decide)
      obtain ⟨_, e8⟩ : ∃ _w : World, vals 8 = .int .i64 iv := hcs 8 (by simp) (by decide)
      obtain ⟨_, e9⟩ : ∃ _w : World, vals 9 = .agg (u8s 64 (cf s2)) := hcs 9 (by simp) (by decide)
      obtain ⟨_, e10⟩ : ∃ _w : World, vals 10 = .int .i64 p := hcs 10 (by simp) (by decide)
      obtain ⟨_, e11⟩ : ∃ _w : World, vals 11 = .agg (u8s 64 fun _ => 0) := hcs 11 (by simp) (by decide)
      obtain ⟨_, e12⟩ : ∃ _w : World, vals 12 = .agg (u8s 64 (cf lv)) := hcs 12 (by simp) (by decide)
      obtain ⟨_, e13⟩ : ∃ _w : World, vals 13 = .int .i64 iv := hcs 13 (by simp) (by decide)
      obtain ⟨_, e14⟩ : ∃ _w : World, vals 14 = .agg (u8s 64 (cf s3)) := hcs 14 (by simp) (by decide)
      have hsE0 : Blk xE (w.heap.size + 1 + 1) (u8s 64 (cf s1)) 25 := hrs 0 (by decide)
      have hsE1 : Blk xE (w.heap.size + 1 + 1 + 1) (u8s 64 (cf s2)) 25 := hrs 1 (by decide)
      have hsE2 : Blk xE (w.heap.size + 1 + 1 + 1 + 1) (u8s 64 (cf s3)) 25 := hrs 2 (by decide)
      simp only [List.length_cons, List.length_nil, Nat.zero_add, Nat.reduceAdd, List.replicate, putAll, if_true, Act.put, List.setIfInBounds_toArray, List.set_cons_zero, List.set_cons_succ, e0, e1, e2, e3, e4, e5, e6, e7, e8, e9, e10, e11, e12, e13, e14]
      replace hA := hSx.1
      replace hU := hSx.2.1
      replace hV := hSx.2.2.1
      clear hcs hrs hS0 hSx e0 e1 e2 e3 e4 e5 e6 e7 e8 e9 e10 e11 e12 e13 e14
      go_wp2_with fail
      exact bodyPost_ret (res_ccc rfl rfl hsE0 uPoly sPoly rfl hsE1 uPoly sPoly rfl hsE2 uPoly sPoly) rfl ⟨by unfold scl; rw [HF.out.1, HF.out.2.1, HF.out.2.2.1, HF.out.2.2.2], hBx⟩
    · have hbn : lb ≠ [] := fun h => h0 (by rw [h]; rfl)
      have hb0 : 0 ≤ (lb.length : Int) - 1 := by omega
      have hR2 := (bzl_go hbn).symm.trans hRr.out
      have hS2 := hS.out.s.step hS.out.pr hS.out.hA hS.out.hB hbn
      have hQP := hS.out.a.quot hS.out.b hbn
      have hRP := hS.out.a.rest hS.out.b hbn
      have hlt := (divp_Po hS.out.pr hS.out.s.pa hS.out.s.pb hbn).2.2
      have hdv := fun w => l01Divide_any la lb p w hS.out.a hS.out.b hbn
      have hm1 := prod_le hQP hS.out.x.po (hS.out.s.iu.prod hS.out.hB hbn)
      have hm2 := prod_le hQP hS.out.y.po (hS.out.s.iv.prod hS.out.hA hbn)
      obtain ⟨q, hq⟩ : ∃ q, (divp p la lb).1 = q := ⟨_, rfl⟩
      obtain ⟨r, hr⟩ : ∃ r, (divp p la lb).2 = r := ⟨_, rfl⟩
      rw [hq, hr] at hR2 hS2 hdv
      rw [hq] at hQP hm1 hm2
      rw [hr] at hRP hlt
      have ht1 := fun w => l01Times_in q lx p w hQP hS.out.x hm1
      have ht2 := fun w => l01Times_in q ly p w hQP hS.out.y hm2
      have hP1 := hQP.mulp hm1
      have hP2 := hQP.mulp hm2
      obtain ⟨m1, hm1e⟩ : ∃ m, mulp p q lx = m := ⟨_, rfl⟩
      obtain ⟨m2, hm2e⟩ : ∃ m, mulp p q ly = m := ⟨_, rfl⟩
      rw [hm1e, hm2e] at hR2 hS2
      rw [hm1e] at ht1 hP1
      rw [hm2e] at ht2 hP2
      have ha1 := fun w => l01Add_list lu m1 p (-1) w hS.out.u hP1 (by decide) (by decide)
      have ha2 := fun w => l01Add_list lv m2 p (-1) w hS.out.v hP2 (by decide) (by decide)
      obtain ⟨n1, hn1e⟩ : ∃ m, addp p lu m1 (-1) = m := ⟨_, rfl⟩
      obtain ⟨n2, hn2e⟩ : ∃ m, addp p lv m2 (-1) = m := ⟨_, rfl⟩
      rw [hn1e, hn2e] at hR2 hS2
      rw [hn1e] at ha1
      rw [hn2e] at ha2
      have HS2 := Lib.hid (BzP.mk hS2 hS.out.pr hS.out.hA hS.out.hB)
      have HR2 := Lib.hid hR2
      have HRP := Lib.hid hRP
      have HC := Lib.hid (And.intro hdv (And.intro ht1 (And.intro ht2 (And.intro ha1 ha2))))
      have hltH := Lib.hid hlt
      clear hR2 hS2 hQP hRP hlt hdv hm1 hm2 hq hr ht1 ht2 hP1 hP2 hm1e hm2e ha1 ha2 hn1e hn2e hbn hRr h0
      go_wp2_with ((with_reducible refine wpl_guard ?_); first | (refine wpl_load_arr rfl 25 _ rfl _ rfl _ _ hD _ _ uPoly sPoly ?_))
      refine (l01Deg_list p lb _ hS.out.b).mono ?_
      rintro e w4 ⟨rfl, hn⟩
      replace hA := hA.keep hn
      replace hD := hD.keep hn
      replace hU := hU.keep hn
      replace hX := hX.keep hn
      replace hV := hV.keep hn
      replace hY := hY.keep hn
      replace hE := hE.keep hn
      replace hF := hF.keep hn
      replace hG := hG.keep hn
      replace hb := below_step hb hn
      clear hn
      go_wp2_with ((with_reducible refine wpl_guard ?_); first | (refine wpl_load_arr rfl 25 (.tmp 4) rfl _ rfl _ _ hA _ _ uPoly sPoly ?_) | (refine wpl_load_arr rfl 25 (.tmp 5) rfl _ rfl _ _ hD _ _ uPoly sPoly ?_))
      refine (HC.out.1 _).mono ?_
      rintro e w5 ⟨rfl, hn⟩
      replace hA := hA.keep hn
      replace hD := hD.keep hn
      replace hU := hU.keep hn
      replace hX := hX.keep hn
      replace hV := hV.keep hn
      replace hY := hY.keep hn
      replace hE := hE.keep hn
      replace hF := hF.keep hn
      replace hG := hG.keep hn
      replace hb := below_step hb hn
      clear hn
      have hl5y := hY.lt
      go_wp2_with ((with_reducible refine wpl_guard ?_); first | (refine wpl_new2 25 zPoly sPoly _ _ rfl rfl rfl rfl rfl _ _ rfl rfl rfl rfl rfl rfl _ rfl rfl _ rfl ?_; intro w6 hn hQ hR; replace hA := hA.keep hn; replace hD := hD.keep hn; replace hU := hU.keep hn; replace hX := hX.keep hn; replace hV := hV.keep hn; replace hY := hY.keep hn; replace hE := hE.keep hn; replace hF := hF.keep hn; replace hG := hG.keep hn; replace hb := below_step hb hn; clear hn) | (refine wpl_load_arr rfl 25 (.tmp 13) rfl _ rfl _ _ hQ _ _ uPoly sPoly ?_) | (refine wpl_load_arr rfl 25 (.tmp 10) rfl _ rfl _ _ hX _ _ uPoly sPoly ?_))
      refine (HC.out.2.1 _).mono ?_
      rintro e w7 ⟨rfl, hn⟩
      replace hA := hA.keep hn
      replace hD := hD.keep hn
      replace hU := hU.keep hn
      replace hX := hX.keep hn
      replace hV := hV.keep hn
      replace hY := hY.keep hn
      replace hE := hE.keep hn
      replace hF := hF.keep hn
      replace hG := hG.keep hn
      replace hQ := hQ.keep hn
      replace hR := hR.keep hn
      replace hb := below_step hb hn
      clear hn
      go_wp2_with ((with_reducible refine wpl_guard ?_); first | (refine wpl_new1 25 zPoly sPoly _ _ rfl rfl rfl rfl rfl rfl _ rfl ?_; intro w8 hn hM; replace hA := hA.keep hn; replace hD := hD.keep hn; replace hU := hU.keep hn; replace hX := hX.keep hn; replace hV := hV.keep hn; replace hY := hY.keep hn; replace hE := hE.keep hn; replace hF := hF.keep hn; replace hG := hG.keep hn; replace hQ := hQ.keep hn; replace hR := hR.keep hn; replace hb := below_step hb hn; clear hn) | (refine wpl_load_arr rfl 25 (.tmp 13) rfl _ rfl _ _ hQ _ _ uPoly sPoly ?_) | (refine wpl_load_arr rfl 25 (.tmp 12) rfl _ rfl _ _ hY _ _ uPoly sPoly ?_))
      refine (HC.out.2.2.1 _).mono ?_
      rintro e w9 ⟨rfl, hn⟩
      replace hA := hA.keep hn
      replace hD := hD.keep hn
      replace hU := hU.keep hn
      replace hX := hX.keep hn
      replace hV := hV.keep hn
      replace hY := hY.keep hn
      replace hE := hE.keep hn
      replace hF := hF.keep hn
      replace hG := hG.keep hn
      replace hQ := hQ.keep hn
      replace hR := hR.keep hn
      replace hM := hM.keep hn
      replace hb := below_step hb hn
      clear hn
      go_wp2_with ((with_reducible refine wpl_guard ?_); first | (refine wpl_new1 25 zPoly sPoly _ _ rfl rfl rfl rfl rfl rfl _ rfl ?_; intro w10 hn hN; replace hA := hA.keep hn; replace hD := hD.keep hn; replace hU := hU.keep hn; replace hX := hX.keep hn; replace hV := hV.keep hn; replace hY := hY.keep hn; replace hE := hE.keep hn; replace hF := hF.keep hn; replace hG := hG.keep hn; replace hQ := hQ.keep hn; replace hR := hR.keep hn; replace hM := hM.keep hn; replace hb := below_step hb hn; clear hn))
      have hlu := hU.lt
      have hly := hY.lt
      have hl5 := hR.lt
      go_upto_region 6 with (fail)
      refine law_region2 (by kernel_rfl) (by kernel_rfl) (by kernel_rfl) (by kernel_rfl)
          (fun i => ([some (.int .i64 p), some (.agg (u8s 64 (cf lu))), some (.agg (u8s 64 (cf m1))), some (.agg (u8s 64 (cf n1))), some (.int .i64 p), some (.agg (u8s 64 (cf lv))), some (.agg (u8s 64 (cf m2))), some (.agg (u8s 64 (cf n2))), none, none, none, none] : List (Option Value)).getD i none) 2 (fun k => [8, 9].getD k 0) (fun k => [10, 11].getD k 0) (fun k => [3, 7].getD k 0) (fun k => [19, 20].getD k 0) (fun k => [53, 57].getD k 0) (fun k => [64, 64].getD k 0) (fun k => [(cf n1), (cf n2)].getD k (fun _ => 0)) (fun k => [25, 25].getD k 0) ?_ ?_ ?_ ?_ ?_ ?_
      · intro i hi
        rcases i with _|_|_|_|_|_|_|_|_|_|_|_|i
        · exact .inl ⟨_, rfl⟩
        · exact .inl ⟨_, rfl⟩
        · exact .inl ⟨_, rfl⟩
        · exact .inl ⟨_, rfl⟩
        · exact .inl ⟨_, rfl⟩
        · exact .inl ⟨_, rfl⟩
        · exact .inl ⟨_, rfl⟩
        · exact .inl ⟨_, rfl⟩
        · exact .inr (.inl ⟨0, by decide, rfl⟩)
        · exact .inr (.inl ⟨1, by decide, rfl⟩)
        · exact .inr (.inr ⟨0, by decide, rfl⟩)
        · exact .inr (.inr ⟨1, by decide, rfl⟩)
        · simp only [List.length_cons, List.length_nil] at hi; omega
      · intro k hk
        rcases k with _|_|k
        · exact ⟨rfl, rfl, rfl, zPoly⟩
        · exact ⟨rfl, rfl, rfl, zPoly⟩
        · omega
      · intro k hk k' hk'
        rcases k with _|_|k
        all_goals rcases k' with _|_|k'
        all_goals first | omega | exact ⟨by decide, by decide, by decide⟩
      · intro k hk
        rcases k with _|_|k
        · kernel_rfl
        · kernel_rfl
        · omega
      · intro i o c ho hc a z2 hB hrd hpar
        rcases i with _|_|_|_|_|_|_|_|_|_|_|_|i
        · obtain rfl := Option.some.inj ho
          obtain rfl := Option.some.inj hc
          exact wp_move _ (.int .i64 p) rfl (hpar 0 _ (by kernel_rfl) (by kernel_rfl))
        · obtain rfl := Option.some.inj ho
          obtain rfl := Option.some.inj hc
          exact wp_loadB 25 _ rfl _ (hpar 9 (.pointer (some ⟨g0, 0, none⟩)) (by kernel_rfl) (by kernel_rfl)) _ _ (hU.keep hB) _ _ uPoly sPoly
        · obtain rfl := Option.some.inj ho
          obtain rfl := Option.some.inj hc
          exact wp_loadB 25 _ rfl _ (hpar 15 (.pointer (some ⟨w7.heap.size, 0, none⟩)) (by kernel_rfl) (by kernel_rfl)) _ _ (hM.keep hB) _ _ uPoly sPoly
        · obtain rfl := Option.some.inj ho
          obtain rfl := Option.some.inj hc
          exact wp_callB 78 [.tmp 50, .tmp 51, .tmp 52, .const (.int .i64 (-1))] _ rfl [.int .i64 p, .agg (u8s 64 (cf lu)), .agg (u8s 64 (cf m1)), .int .i64 (-1)] (by simp only [List.map_cons, List.map_nil, (hrd 0 _ _ 50 rfl rfl rfl (by kernel_rfl) (by kernel_rfl)), (hrd 1 _ _ 51 rfl rfl rfl (by kernel_rfl) (by kernel_rfl)), (hrd 2 _ _ 52 rfl rfl rfl (by kernel_rfl) (by kernel_rfl)), eval_const]) Try.call78 _ (HC.out.2.2.2.1 z2)
        · obtain rfl := Option.some.inj ho
          obtain rfl := Option.some.inj hc
          exact wp_move _ (.int .i64 p) rfl (hpar 0 _ (by kernel_rfl) (by kernel_rfl))
        · obtain rfl := Option.some.inj ho
          obtain rfl := Option.some.inj hc
          exact wp_loadB 25 _ rfl _ (hpar 11 (.pointer (some ⟨g0 + 1 + 1, 0, none⟩)) (by kernel_rfl) (by kernel_rfl)) _ _ (hV.keep hB) _ _ uPoly sPoly
        · obtain rfl := Option.some.inj ho
          obtain rfl := Option.some.inj hc
          exact wp_loadB 25 _ rfl _ (hpar 17 (.pointer (some ⟨w9.heap.size, 0, none⟩)) (by kernel_rfl) (by kernel_rfl)) _ _ (hN.keep hB) _ _ uPoly sPoly
        · obtain rfl := Option.some.inj ho
          obtain rfl := Option.some.inj hc
          exact wp_callB 78 [.tmp 54, .tmp 55, .tmp 56, .const (.int .i64 (-1))] _ rfl [.int .i64 p, .agg (u8s 64 (cf lv)), .agg (u8s 64 (cf m2)), .int .i64 (-1)] (by simp only [List.map_cons, List.map_nil, (hrd 4 _ _ 54 rfl rfl rfl (by kernel_rfl) (by kernel_rfl)), (hrd 5 _ _ 55 rfl rfl rfl (by kernel_rfl) (by kernel_rfl)), (hrd 6 _ _ 56 rfl rfl rfl (by kernel_rfl) (by kernel_rfl)), eval_const]) Try.call78 _ (HC.out.2.2.2.2 z2)
        · cases hc
        · cases hc
        · cases hc
        · cases hc
        · cases hc
      intro vals xS hB hc hr
      have e0 : vals 0 = .int .i64 p := hc 0 _ (by simp) rfl
      have e1 : vals 1 = .agg (u8s 64 (cf lu)) := hc 1 _ (by simp) rfl
      have e2 : vals 2 = .agg (u8s 64 (cf m1)) := hc 2 _ (by simp) rfl
      have e3 : vals 3 = .agg (u8s 64 (cf n1)) := hc 3 _ (by simp) rfl
      have e4 : vals 4 = .int .i64 p := hc 4 _ (by simp) rfl
      have e5 : vals 5 = .agg (u8s 64 (cf lv)) := hc 5 _ (by simp) rfl
      have e6 : vals 6 = .agg (u8s 64 (cf m2)) := hc 6 _ (by simp) rfl
      have e7 : vals 7 = .agg (u8s 64 (cf n2)) := hc 7 _ (by simp) rfl
      obtain ⟨gS0, p0, hgS0, hS0⟩ : ∃ g, vals 8 = .pointer (some ⟨g, 0, none⟩) ∧ _ ≤ g ∧ Blk xS g (u8s 64 (cf n1)) 25 := hr 0 (by decide)
      obtain ⟨gS1, p1, hgS1, hS1⟩ : ∃ g, vals 9 = .pointer (some ⟨g, 0, none⟩) ∧ _ ≤ g ∧ Blk xS g (u8s 64 (cf n2)) 25 := hr 1 (by decide)
      simp only [List.length_cons, List.length_nil, Nat.zero_add, Nat.reduceAdd, List.replicate, putAll, if_true, Act.put, List.setIfInBounds_toArray, List.set_cons_zero, List.set_cons_succ, e0, e1, e2, e3, e4, e5, e6, e7, p0, p1]
      replace hA := hA.keep hB
      replace hD := hD.keep hB
      replace hU := hU.keep hB
      replace hX := hX.keep hB
      replace hV := hV.keep hB
      replace hY := hY.keep hB
      replace hE := hE.keep hB
      replace hF := hF.keep hB
      replace hG := hG.keep hB
      replace hR := hR.keep hB
      replace hb := below_step hb hB
      clear hc hr e0 e1 e2 e3 e4 e5 e6 e7 p0 p1
      clear hB
      have hgS0' := hgS0
      have hgS1' := hgS1
      clear hgS0 hgS1 hQ hM hN
      go_upto_region 7 with (fail)
      refine wp_copy (s := 58) 25 rfl rfl (.tmp 5) (.tmp 4) rfl rfl rfl rfl hD hA (by kernel_rfl) (by kernel_rfl) (by kernel_rfl) uPoly sPoly ?_
      intro z7 khA hk hbb
      replace hD := hk _ _ _ (by omega) hD
      replace hU := hk _ _ _ (by omega) hU
      replace hX := hk _ _ _ (by omega) hX
      replace hV := hk _ _ _ (by omega) hV
      replace hY := hk _ _ _ (by omega) hY
      replace hE := hk _ _ _ (by omega) hE
      replace hF := hk _ _ _ (by omega) hF
      replace hG := hk _ _ _ (by omega) hG
      replace hR := hk _ _ _ (by omega) hR
      replace hS0 := hk _ _ _ (by omega) hS0
      replace hS1 := hk _ _ _ (by omega) hS1
      replace hb := hbb _ _ hb (by omega)
      clear hA hk hbb
      have hA := khA
      clear khA
      simp only [Act.put, List.setIfInBounds_toArray, List.set_cons_zero, List.set_cons_succ]
      go_upto_region 8 with (fail)
      refine wp_copy (s := 59) 25 rfl rfl (.tmp 14) (.tmp 5) rfl rfl rfl rfl hR hD (by kernel_rfl) (by kernel_rfl) (by kernel_rfl) uPoly sPoly ?_
      intro z8 khD hk hbb
      replace hA := hk _ _ _ (by omega) hA
      replace hU := hk _ _ _ (by omega) hU
      replace hX := hk _ _ _ (by omega) hX
      replace hV := hk _ _ _ (by omega) hV
      replace hY := hk _ _ _ (by omega) hY
      replace hE := hk _ _ _ (by omega) hE
      replace hF := hk _ _ _ (by omega) hF
      replace hG := hk _ _ _ (by omega) hG
      replace hR := hk _ _ _ (by omega) hR
      replace hS0 := hk _ _ _ (by omega) hS0
      replace hS1 := hk _ _ _ (by omega) hS1
      replace hb := hbb _ _ hb (by omega)
      clear hD hk hbb
      have hD := khD
      clear khD
      simp only [Act.put, List.setIfInBounds_toArray, List.set_cons_zero, List.set_cons_succ]
      go_upto_region 9 with (fail)
      refine wp_copy (s := 60) 25 rfl rfl (.tmp 10) (.tmp 9) rfl rfl rfl rfl hX hU (by kernel_rfl) (by kernel_rfl) (by kernel_rfl) uPoly sPoly ?_
      intro z9 khU hk hbb
      replace hA := hk _ _ _ (by omega) hA
      replace hD := hk _ _ _ (by omega) hD
      replace hX := hk _ _ _ (by omega) hX
      replace hV := hk _ _ _ (by omega) hV
      replace hY := hk _ _ _ (by omega) hY
      replace hE := hk _ _ _ (by omega) hE
      replace hF := hk _ _ _ (by omega) hF
      replace hG := hk _ _ _ (by omega) hG
      replace hR := hk _ _ _ (by omega) hR
      replace hS0 := hk _ _ _ (by omega) hS0
      replace hS1 := hk _ _ _ (by omega) hS1
      replace hb := hbb _ _ hb (by omega)
      clear hU hk hbb
      have hU := khU
      clear khU
      simp only [Act.put, List.setIfInBounds_toArray, List.set_cons_zero, List.set_cons_succ]
      go_upto_region 10 with (fail)
      refine wp_copy (s := 61) 25 rfl rfl (.tmp 12) (.tmp 11) rfl rfl rfl rfl hY hV (by kernel_rfl) (by kernel_rfl) (by kernel_rfl) uPoly sPoly ?_
      intro z10 khV hk hbb
      replace hA := hk _ _ _ (by omega) hA
      replace hD := hk _ _ _ (by omega) hD
      replace hU := hk _ _ _ (by omega) hU
      replace hX := hk _ _ _ (by omega) hX
      replace hY := hk _ _ _ (by omega) hY
      replace hE := hk _ _ _ (by omega) hE
      replace hF := hk _ _ _ (by omega) hF
      replace hG := hk _ _ _ (by omega) hG
      replace hR := hk _ _ _ (by omega) hR
      replace hS0 := hk _ _ _ (by omega) hS0
      replace hS1 := hk _ _ _ (by omega) hS1
      replace hb := hbb _ _ hb (by omega)
      clear hV hk hbb
      have hV := khV
      clear khV
      simp only [Act.put, List.setIfInBounds_toArray, List.set_cons_zero, List.set_cons_succ]
      go_upto_region 11 with (fail)
      refine wp_copy (s := 62) 25 rfl rfl (.tmp 19) (.tmp 10) rfl rfl rfl rfl hS0 hX (by kernel_rfl) (by kernel_rfl) (by kernel_rfl) uPoly sPoly ?_
      intro z11 khX hk hbb
      replace hA := hk _ _ _ (by omega) hA
      replace hD := hk _ _ _ (by omega) hD
      replace hU := hk _ _ _ (by omega) hU
      replace hV := hk _ _ _ (by omega) hV
      replace hY := hk _ _ _ (by omega) hY
      replace hE := hk _ _ _ (by omega) hE
      replace hF := hk _ _ _ (by omega) hF
      replace hG := hk _ _ _ (by omega) hG
      replace hR := hk _ _ _ (by omega) hR
      replace hS0 := hk _ _ _ (by omega) hS0
      replace hS1 := hk _ _ _ (by omega) hS1
      replace hb := hbb _ _ hb (by omega)
      clear hX hk hbb
      have hX := khX
      clear khX
      simp only [Act.put, List.setIfInBounds_toArray, List.set_cons_zero, List.set_cons_succ]
      go_upto_region 12 with (fail)
      refine wp_copy (s := 63) 25 rfl rfl (.tmp 20) (.tmp 12) rfl rfl rfl rfl hS1 hY (by kernel_rfl) (by kernel_rfl) (by kernel_rfl) uPoly sPoly ?_
      intro z12 khY hk hbb
      replace hA := hk _ _ _ (by omega) hA
      replace hD := hk _ _ _ (by omega) hD
      replace hU := hk _ _ _ (by omega) hU
      replace hX := hk _ _ _ (by omega) hX
      replace hV := hk _ _ _ (by omega) hV
      replace hE := hk _ _ _ (by omega) hE
      replace hF := hk _ _ _ (by omega) hF
      replace hG := hk _ _ _ (by omega) hG
      replace hR := hk _ _ _ (by omega) hR
      replace hS0 := hk _ _ _ (by omega) hS0
      replace hS1 := hk _ _ _ (by omega) hS1
      replace hb := hbb _ _ hb (by omega)
      clear hY hk hbb
      have hY := khY
      clear khY
      simp only [Act.put, List.setIfInBounds_toArray, List.set_cons_zero, List.set_cons_succ]
      go_wp2_with fail
      go_roundw
      case rel => exact ⟨k, lb, r, lx, n1, ly, n2, by have := hltH.out; omega, by omega, HS2, HR2, hA, hD, hU, hX, hV, hY, hE, hF, hG, hb⟩
      case measure =>
        rw [polyLen_blk hD HRP.out.po.tr HRP.out.le, hpl.out]; exact hltH.out
end Go.Proofs.Ytnkkkgaojhkniab

/- Walks: rests of arrays, and T times a rest. -/
namespace Go.Proofs.Ytnkkkgaojhkniab
open Go.RowKit

/-- T times a rest, ahead of the division. -/
def shF (xs : List Int) (j : Nat) : Nat → Int := fun i => if 1 ≤ i ∧ i < j then cf xs (i - 1) else 0
def upF (p q : Int) (xs ms : List Int) (n j : Nat) : Nat → Int := fun i => if i < j then (shF xs n i - q * cf ms i) % p else shF xs n i
theorem upF_all {p : Int} {xs ms : List Int} (hm : P64 p ms) (n : Nat) (hn : ms.length = n + 1) (h1 : 1 ≤ n) (hl : xs.length < ms.length) (q : Int) (hq : cf xs (n - 1) * invp p (cf ms n) % p = q) (i : Nat) : upF p q xs ms n n i = cf (mulmod p [0, 1] xs ms) i := by
  rw [← up_eq hm.pr hm.po (by omega) hl, mkp_cf, hn, Nat.add_sub_cancel, show n + 1 - 2 = n - 1 by omega, hq]
  unfold upF shF
  by_cases h : i < n
  · rw [if_pos h, if_pos h]
    by_cases e : i = 0
    · rw [if_neg (by omega), if_pos e]
    · rw [if_pos (by omega), if_neg e]
  · rw [if_neg h, if_neg h, if_neg (by omega)]

end Go.Proofs.Ytnkkkgaojhkniab

/- Walks: products and powers of arrays modulo an array. -/
namespace Go.Proofs.Ytnkkkgaojhkniab
open Go.RowKit

theorem rst_P64 {p : Int} {xs ms : List Int} (hx : P64 p xs) (hm : P64 p ms) (hne : ms ≠ []) : P64 p (rst p xs ms) := ⟨hx.pr, rst_Po hx.pr hx.po hm.po hne, by have := rst_lt hx.pr hx.po hm.po hne; have := hm.le; omega⟩
theorem mulmod_P64 {p : Int} (xs ys : List Int) {ms : List Int} (hm : P64 p ms) (hne : ms ≠ []) : P64 p (mulmod p xs ys ms) := ⟨hm.pr, mulmod_Po hm.pr hm.po hne, by have := mulmod_lt hm.pr (a := xs) (b := ys) hm.po hne; have := hm.le; omega⟩
theorem P64.one {p : Int} (hp : Pr p) : P64 p [1] := ⟨hp, one_Po hp.pos.1, by simp⟩
end Go.Proofs.Ytnkkkgaojhkniab

/- Several texts in one: A7, S5, S6, S7. -/
import Derived.Test.YtojkngdabejjdaaRws
import Derived.Test.YtojkngdabejjdaaPure
import Derived.Test.YtojkngdabejjdaaSpc
import Derived.Test.YtojkngdabejjdaaRegs
set_option linter.unusedVariables false
set_option linter.unusedSimpArgs false
/- Walks: a row put in the place of T. -/
namespace Go.Proofs.Ytojkngdabejjdaa
open Go.RowKit
theorem zInt : (Try.prog.info? 2).bind (·.zero) = some (.int .i64 0) := by kernel_rfl
theorem uInt : Try.prog.underlying 2 = some (.int .i64) := by kernel_rfl
theorem cmpp_len_le (p : Int) (ys : List Int) : ∀ xs : List Int, (cmpp p ys xs).length ≤ xs.length * ys.length + 1
  | [] => by show ([] : List Int).length ≤ _; simp
  | c :: tl => by
    have ih := cmpp_len_le p ys tl
    have h1 := addp_length p (mulp p (cmpp p ys tl) ys) [c] 1
    have h2 := mulp_length_le p (cmpp p ys tl) ys
    show (addp p (mulp p (cmpp p ys tl) ys) [c] 1).length ≤ _
    have h3 : max (mulp p (cmpp p ys tl) ys).length [c].length ≤ (mulp p (cmpp p ys tl) ys).length + 1 := Nat.max_le.2 ⟨by omega, by simp⟩
    by_cases e : (mulp p (cmpp p ys tl) ys).length = 0
    · rw [e] at h1 h3; simp at h1; omega
    · have h4 : max (mulp p (cmpp p ys tl) ys).length [c].length = (mulp p (cmpp p ys tl) ys).length := by rw [Nat.max_eq_left]; simp; omega
      rw [h4] at h1
      rw [List.length_cons, Nat.add_mul, Nat.one_mul]
      omega

end Go.Proofs.Ytojkngdabejjdaa

/- Walks: the greatest common divisor of arrays with its factors. -/
namespace Go.Proofs.Ytojkngdabejjdaa
open Go.RowKit

theorem boxes5 (w : World) (A B C D E : Array Value) (t u v x y : TypeId) : ∃ w', w' = (((((w.alloc (.cells A t)).alloc (.cells B u)).alloc (.cells C v)).alloc (.cells D x)).alloc (.cells E y)) ∧ Below w.heap.size w w' ∧ Blk w' w.heap.size A t ∧
    Blk w' (w.heap.size + 1) B u ∧ Blk w' (w.heap.size + 1 + 1) C v ∧ Blk w' (w.heap.size + 1 + 1 + 1) D x ∧ Blk w' (w.heap.size + 1 + 1 + 1 + 1) E y := by
  obtain ⟨h0, h1, h2, h3, h4⟩ := boxes4 w A B C D t u v x
  exact ⟨_, rfl, h0.alloc (by simp; omega) _, h1.alloc _, h2.alloc _, h3.alloc _, h4.alloc _, Blk.newAt (by simp) _ _⟩
theorem P64.mulp {p : Int} {xs ys : List Int} (hx : P64 p xs) (h : (mulp p xs ys).length ≤ 64) : P64 p (mulp p xs ys) := ⟨hx.pr, mulp_Po (by have := hx.pr.pos; omega) _ _, h⟩
theorem prod_le {p : Int} {xs ys : List Int} (hx : P64 p xs) (hy : Po p ys) (h : xs = [] ∨ ys = [] ∨ xs.length + ys.length ≤ 65) : (mulp p xs ys).length ≤ 64 := by
  rcases mulp_len hx.pr hx.po hy with h1 | ⟨h1, h2, h3⟩
  · rw [h1]; simp
  · rcases h with h | h | h
    · exact absurd h h1
    · exact absurd h h2
    · omega
structure BzP (p : Int) (A B : Nat) (a b u x v y : List Int) : Prop where
  s : BzS p A B a b u x v y
  pr : Pr p
  hA : A ≤ 64
  hB : B ≤ 64
theorem BzP.a {p : Int} {A B : Nat} {a b u x v y : List Int} (h : BzP p A B a b u x v y) : P64 p a := ⟨h.pr, h.s.pa, h.s.la⟩
theorem BzP.b {p : Int} {A B : Nat} {a b u x v y : List Int} (h : BzP p A B a b u x v y) : P64 p b := ⟨h.pr, h.s.pb, h.s.lb⟩
theorem BzP.u {p : Int} {A B : Nat} {a b u x v y : List Int} (h : BzP p A B a b u x v y) : P64 p u := ⟨h.pr, h.s.pu, h.s.iu.hl⟩
theorem BzP.v {p : Int} {A B : Nat} {a b u x v y : List Int} (h : BzP p A B a b u x v y) : P64 p v := ⟨h.pr, h.s.pv, h.s.iv.hl⟩
theorem BzP.x {p : Int} {A B : Nat} {a b u x v y : List Int} (h : BzP p A B a b u x v y) : P64 p x := ⟨h.pr, h.s.px, by rcases h.s.iu.hx with h | h; (· rw [h]; simp); exact h.1⟩
theorem BzP.y {p : Int} {A B : Nat} {a b u x v y : List Int} (h : BzP p A B a b u x v y) : P64 p y := ⟨h.pr, h.s.py, by rcases h.s.iv.hx with h | h; (· rw [h]; simp); exact h.1⟩

set_option maxRecDepth 20000 in
set_option maxHeartbeats 4000000 in
theorem l01Bezout_any (xs ys : List Int) (p : Int) (w : World) (hx : P64 p xs) (hy : P64 p ys) (hne : xs ≠ [] ∨ ys ≠ []) :
    Calls Try.prog 31 #[.int .i64 p, .agg (u8s 64 (cf xs)), .agg (u8s 64 (cf ys))] w fun e w' => e = .returned (.tuple #[.agg (u8s 64 (cf (bez p xs ys).1)), .agg (u8s 64 (cf (bez p xs ys).2.1)), .agg (u8s 64 (cf (bez p xs ys).2.2))]) ∧ Below w.heap.size w w' := by
  have hs : BzP p xs.length ys.length xs ys [1] [] [] [1] := ⟨BzS.start hx.pr hx.po hy.po hx.le hy.le hne, hx.pr, hx.le, hy.le⟩
  obtain ⟨R, hR⟩ : ∃ R, bzl p (ys.length + 1) xs ys [1] [] [] [1] = R := ⟨_, rfl⟩
  have hez : bez p xs ys = (scl p R.1 (invp p (cf R.1 (R.1.length - 1))), scl p R.2.1 (invp p (cf R.1 (R.1.length - 1))), scl p R.2.2 (invp p (cf R.1 (R.1.length - 1)))) := by unfold bez; rw [hR]
  rw [hez]
  have hsH := Lib.hid hs
  have hRH := Lib.hid hR
  have hpH := Lib.hid hx.pr
  clear hx hy hne hs hez hR
  obtain ⟨w0, hw0, hb, hA, hD, hE, hF, hG⟩ := boxes5 w (u8s 64 (cf xs)) (u8s 64 (cf ys)) (u8s 64 fun _ => 0) (u8s 64 fun _ => 0) (u8s 64 fun _ => 0) 25 25 25 25 25
  have hw0H := Lib.hid hw0.symm
  clear hw0
  obtain ⟨A, hlA⟩ : ∃ A, xs.length = A := ⟨_, rfl⟩
  obtain ⟨B, hlB⟩ : ∃ B, ys.length = B := ⟨_, rfl⟩
  rw [hlA, hlB] at hsH
  rw [hlB] at hRH
  have hBl := Lib.hid hlB
  clear hlA hlB
  go_enter Try.func31, Try.ntmps31
  go_wp2_with ((with_reducible refine wpl_guard ?_); first | (refine wpl_alloc_arr rfl 25 rfl _ zPoly ?_))
  rw [hw0H.out]
  clear hw0H
  refine (l01One_any _).mono ?_
  rintro e w1 ⟨rfl, hn⟩
  replace hA := hA.keep hn
  replace hD := hD.keep hn
  replace hE := hE.keep hn
  replace hF := hF.keep hn
  replace hG := hG.keep hn
  replace hb := below_step hb hn
  clear hn
  go_wp2_with ((with_reducible refine wpl_guard ?_); first | (refine wpl_build_zero rfl 25 64 5 rfl _ uPoly sByte zPoly ?_))
  refine (l01One_any _).mono ?_
  rintro e w2 ⟨rfl, hn⟩
  replace hA := hA.keep hn
  replace hD := hD.keep hn
  replace hE := hE.keep hn
  replace hF := hF.keep hn
  replace hG := hG.keep hn
  replace hb := below_step hb hn
  clear hn
  have hgg := hG.lt
  generalize hg0 : w2.heap.size = g0 at hgg
  have hg0H := Lib.hid hg0
  clear hg0
  have hcv : (fun _ => (0 : Int)) = cf [] := cf_void.symm
  have hcvH := Lib.hid hcv
  clear hcv
  go_wp2_with ((with_reducible refine wpl_guard ?_); first | (refine wpl_new4 25 zPoly sPoly _ _ rfl rfl rfl rfl rfl _ _ rfl rfl rfl rfl rfl _ _ rfl rfl rfl rfl rfl _ _ rfl rfl rfl rfl rfl rfl (cf [1]) rfl rfl (fun _ => 0) rfl rfl (fun _ => 0) rfl rfl (cf [1]) rfl ?_; rw [hg0H.out]; intro w3 hn hU hX hV hY; rw [hcvH.out] at hX hV))
  replace hA := hA.keep (hg0H.out ▸ hn)
  replace hD := hD.keep (hg0H.out ▸ hn)
  replace hE := hE.keep (hg0H.out ▸ hn)
  replace hF := hF.keep (hg0H.out ▸ hn)
  replace hG := hG.keep (hg0H.out ▸ hn)
  replace hb := below_step hb (hg0H.out ▸ hn)
  clear hn hg0H hcvH
  simp only [Act.put, List.setIfInBounds_toArray, List.set_cons_zero, List.set_cons_succ]
  go_loopw [29] (fun _ wr => ∃ (n : Nat) (la lb lu lx lv ly : List Int), lb.length < n ∧ n ≤ 65 ∧ Hid (BzP p A B la lb lu lx lv ly) ∧ Hid (bzl p n la lb lu lx lv ly = R) ∧ Blk wr (w.heap.size) (u8s 64 (cf la)) 25 ∧ Blk wr (w.heap.size + 1) (u8s 64 (cf lb)) 25 ∧ Blk wr (g0) (u8s 64 (cf lu)) 25 ∧ Blk wr (g0 + 1) (u8s 64 (cf lx)) 25 ∧ Blk wr (g0 + 1 + 1) (u8s 64 (cf lv)) 25 ∧ Blk wr (g0 + 1 + 1 + 1) (u8s 64 (cf ly)) 25 ∧ Blk wr (w.heap.size + 1 + 1) (u8s 64 fun _ => 0) 25 ∧ Blk wr (w.heap.size + 1 + 1 + 1) (u8s 64 fun _ => 0) 25 ∧ Blk wr (w.heap.size + 1 + 1 + 1 + 1) (u8s 64 fun _ => 0) 25 ∧ Below w.heap.size w wr) (fun _ wr => polyLen wr (w.heap.size + 1))
  case atStart => exact ⟨B + 1, xs, ys, [1], [], [], [1], by have := hBl.out; omega, by have := hsH.out.hB; omega, hsH, hRH, hA, hD, hU, hX, hV, hY, hE, hF, hG, hb⟩
  case round =>
    clear hsH hRH hb hA hD hU hX hV hY hE hF hG hBl
    obtain ⟨n, la, lb, lu, lx, lv, ly, hn1, hn2, hS, hRr, hA, hD, hU, hX, hV, hY, hE, hF, hG, hb⟩ := hrel
    obtain ⟨k, rfl⟩ : ∃ k, n = k + 1 := ⟨n - 1, by omega⟩
    have hlb := hS.out.s.lb
    have hpl := Lib.hid (polyLen_blk hD hS.out.b.po.tr hS.out.b.le)
    by_cases h0 : lb.length = 0
    · have hbn : lb = [] := List.length_eq_zero_iff.1 h0
      subst hbn
      have hR2 : R = (la, lu, lv) := hRr.out.symm.trans (bzl_stop _ _ _ _ _ _ _)
      subst hR2
      have hane : la ≠ [] := hS.out.s.ne.resolve_right (fun h => h rfl)
      have hal : 0 < la.length := List.length_pos_iff.2 hane
      obtain ⟨M, hM⟩ : ∃ M, la.length = M + 1 := ⟨la.length - 1, by omega⟩
      have hM64 : (M : Int) < 64 := by have := hS.out.a.le; omega
      have hi := invp_spec hS.out.pr (hS.out.s.pa.lead hane) (hS.out.s.pa.md _).2
      have hiv := fun w => l01Inverse_any p (cf la (la.length - 1)) w hS.out.pr (hS.out.s.pa.lead hane) (hS.out.s.pa.md _).2
      have hp2 := hS.out.pr.pos
      obtain ⟨iv, hive⟩ : ∃ iv, invp p (cf la (la.length - 1)) = iv := ⟨_, rfl⟩
      rw [hive] at hiv hi
      have hi0 := hi.1
      have hi1 := hi.2.1
      have hs1 := fun w => l01Add_zero la p iv w hS.out.a (by omega) (by omega)
      have hs2 := fun w => l01Add_zero lu p iv w hS.out.u (by omega) (by omega)
      have hs3 := fun w => l01Add_zero lv p iv w hS.out.v (by omega) (by omega)
      obtain ⟨s1, hs1e⟩ : ∃ s, addp p [] la iv = s := ⟨_, rfl⟩
      obtain ⟨s2, hs2e⟩ : ∃ s, addp p [] lu iv = s := ⟨_, rfl⟩
      obtain ⟨s3, hs3e⟩ : ∃ s, addp p [] lv iv = s := ⟨_, rfl⟩
      rw [hs1e] at hs1
      rw [hs2e] at hs2
      rw [hs3e] at hs3
      rw [show la.length - 1 = M by omega] at hiv
      have HF := Lib.hid (And.intro hive (And.intro hs1e (And.intro hs2e hs3e)))
      have HC := Lib.hid (And.intro hiv (And.intro hs1 (And.intro hs2 hs3)))
      have hMi : (la.length : Int) - 1 = (M : Int) := by omega
      have hMiH := Lib.hid hMi
      clear hi hiv hs1 hs2 hs3 hs1e hs2e hs3e hive hane hal hM hMi hRr h0
      have hb0 : ¬ 0 ≤ (([] : List Int).length : Int) - 1 := by simp
      go_wp2_with ((with_reducible refine wpl_guard ?_); first | (refine wpl_load_arr rfl 25 _ rfl _ rfl _ _ hD _ _ uPoly sPoly ?_))
      refine (l01Deg_list p [] _ hS.out.b).mono ?_
      rintro e w4 ⟨rfl, hn⟩
      replace hA := hA.keep hn
      replace hD := hD.keep hn
      replace hU := hU.keep hn
      replace hX := hX.keep hn
      replace hV := hV.keep hn
      replace hY := hY.keep hn
      replace hE := hE.keep hn
      replace hF := hF.keep hn
      replace hG := hG.keep hn
      replace hb := below_step hb hn
      clear hn
      go_wp2_with ((with_reducible refine wpl_guard ?_); first | (refine wpl_load_arr rfl 25 _ rfl _ rfl _ _ hA _ _ uPoly sPoly ?_))
      refine (l01Deg_list p la _ hS.out.a).mono ?_
      rintro e w5 ⟨rfl, hn⟩
      replace hA := hA.keep hn
      replace hD := hD.keep hn
      replace hU := hU.keep hn
      replace hX := hX.keep hn
      replace hV := hV.keep hn
      replace hY := hY.keep hn
      replace hE := hE.keep hn
      replace hF := hF.keep hn
      replace hG := hG.keep hn
      replace hb := below_step hb hn
      clear hn
      rw [hMiH.out]
      have c0 : w5.cell? ⟨w.heap.size, M, none⟩ = some (.int .u8 (cf la M)) := by rw [hA.cell, u8s_get _ (by omega)]
      go_wp2_with fail
      refine (HC.out.1 _).mono ?_
      rintro e w6 ⟨rfl, rfl⟩
      clear c0
      go_upto_region 14 with (fail)
      refine gen_region (ws := w) (w := _) (B := w.heap.size) (by kernel_rfl) (by kernel_rfl) (by kernel_rfl) (by kernel_rfl)
          (fun i => ([fun v _ => v = .int .i64 p, fun v _ => v = .agg (u8s 64 fun _ => 0), fun v _ => v = .agg (u8s 64 (cf la)), fun v _ => v = .int .i64 iv, fun v _ => v = .agg (u8s 64 (cf s1)), fun v _ => v = .int .i64 p, fun v _ => v = .agg (u8s 64 fun _ => 0), fun v _ => v = .agg (u8s 64 (cf lu)), fun v _ => v = .int .i64 iv, fun v _ => v = .agg (u8s 64 (cf s2)), fun v _ => v = .int .i64 p, fun v _ => v = .agg (u8s 64 fun _ => 0), fun v _ => v = .agg (u8s 64 (cf lv)), fun v _ => v = .int .i64 iv, fun v _ => v = .agg (u8s 64 (cf s3)), fun _ _ => True, fun _ _ => True, fun _ _ => True] : List (Value → World → Prop)).getD i (fun _ _ => True))
          (fun i => ([true, true, true, true, false, true, true, true, true, false, true, true, true, true, false, true, true, true] : List Bool).getD i true)
          3 (fun k => [15, 16, 17].getD k 0) (fun k => [4, 9, 14].getD k 0) (fun k => [6, 7, 8].getD k 0) (fun k => [75, 80, 85].getD k 0) (fun k => [w.heap.size + 1 + 1, w.heap.size + 1 + 1 + 1, w.heap.size + 1 + 1 + 1 + 1].getD k 0) (fun k => [64, 64, 64].getD k 0) (fun k => [(cf s1), (cf s2), (cf s3)].getD k (fun _ => 0)) (fun k => [(fun _ => 0), (fun _ => 0), (fun _ => 0)].getD k (fun _ => 0)) (fun k => [25, 25, 25].getD k 0) hb (Nat.le_refl _)
          (fun w' => Blk w' (w.heap.size) (u8s 64 (cf la)) 25 ∧ Blk w' (g0) (u8s 64 (cf lu)) 25 ∧ Blk w' (g0 + 1 + 1) (u8s 64 (cf lv)) 25 ∧ True) ⟨hA.drew, hU.drew, hV.drew, trivial⟩ (fun w1 w2 h hb => ⟨h.1.keep hb, h.2.1.keep hb, h.2.2.1.keep hb, trivial⟩) ?_ ?_ ?_ ?_ ?_ ?_ ?_
      · intro k hk w1 cs h
        rcases k with _|_|_|k
        · exact ⟨h.1.setRow_other (by simp only [List.getD_cons_zero, List.getD_cons_succ] <;> omega), h.2.1.setRow_other (by simp only [List.getD_cons_zero, List.getD_cons_succ] <;> omega), h.2.2.1.setRow_other (by simp only [List.getD_cons_zero, List.getD_cons_succ] <;> omega), trivial⟩
        · exact ⟨h.1.setRow_other (by simp only [List.getD_cons_zero, List.getD_cons_succ] <;> omega), h.2.1.setRow_other (by simp only [List.getD_cons_zero, List.getD_cons_succ] <;> omega), h.2.2.1.setRow_other (by simp only [List.getD_cons_zero, List.getD_cons_succ] <;> omega), trivial⟩
        · exact ⟨h.1.setRow_other (by simp only [List.getD_cons_zero, List.getD_cons_succ] <;> omega), h.2.1.setRow_other (by simp only [List.getD_cons_zero, List.getD_cons_succ] <;> omega), h.2.2.1.setRow_other (by simp only [List.getD_cons_zero, List.getD_cons_succ] <;> omega), trivial⟩
        · omega
      · intro i v w1 w2 h hb
        rcases i with _|_|_|_|_|_|_|_|_|_|_|_|_|_|_|_|_|_|i
        · exact h
        · exact h
        · exact h
        · exact h
        · exact h
        · exact h
        · exact h
        · exact h
        · exact h
        · exact h
        · exact h
        · exact h
        · exact h
        · exact h
        · exact h
        · exact h
        · exact h
        · exact h
        · exact h
      · intro k hk
        rcases k with _|_|_|k
        · kernel_rfl
        · kernel_rfl
        · kernel_rfl
        · omega
      · intro k hk
        rcases k with _|_|_|k
        · refine ⟨?_, (by kernel_rfl), hE, fun v w' h => h, by decide, ?_⟩
          · simp only [List.getD_cons_zero, List.getD_cons_succ] <;> omega
          · intro k' hk' hne
            rcases k' with _|_|_|k'
            all_goals first | omega | exact absurd rfl hne | (refine ⟨?_, by decide⟩; simp only [List.getD_cons_zero, List.getD_cons_succ]; omega)
        · refine ⟨?_, (by kernel_rfl), hF, fun v w' h => h, by decide, ?_⟩
          · simp only [List.getD_cons_zero, List.getD_cons_succ] <;> omega
          · intro k' hk' hne
            rcases k' with _|_|_|k'
            all_goals first | omega | exact absurd rfl hne | (refine ⟨?_, by decide⟩; simp only [List.getD_cons_zero, List.getD_cons_succ]; omega)
        · refine ⟨?_, (by kernel_rfl), hG, fun v w' h => h, by decide, ?_⟩
          · simp only [List.getD_cons_zero, List.getD_cons_succ] <;> omega
          · intro k' hk' hne
            rcases k' with _|_|_|k'
            all_goals first | omega | exact absurd rfl hne | (refine ⟨?_, by decide⟩; simp only [List.getD_cons_zero, List.getD_cons_succ]; omega)
        · omega
      · kernel_rfl
      · intro i o ho hz a w2 hBs hSx hBl hrd hpar
        rcases i with _|_|_|_|_|_|_|_|_|_|_|_|_|_|_|_|_|_|i
        · obtain rfl := Option.some.inj ho
          have e0 : a.eval (.tmp 0) = .int .i64 p := hpar 0 _ (by kernel_rfl) (by kernel_rfl)
          exact wpv_of (wp_move _ _ rfl e0) (fun _ _ => rfl)
        · obtain rfl := Option.some.inj ho
          exact wpv_of (wp_build_zeroB 25 64 5 rfl uPoly sByte zPoly) (fun _ _ => rfl)
        · obtain rfl := Option.some.inj ho
          exact wpv_of (wp_loadB 25 _ rfl _ (hpar 4 (.pointer (some ⟨w.heap.size, 0, none⟩)) (by kernel_rfl) (by kernel_rfl)) _ _ hSx.1 _ _ uPoly sPoly) (fun _ _ => rfl)
        · obtain rfl := Option.some.inj ho
          have e21 : a.eval (.tmp 21) = .int .i64 iv := hpar 21 _ (by kernel_rfl) (by kernel_rfl)
          exact wpv_of (wp_move _ _ rfl e21) (fun _ _ => rfl)
        · obtain rfl := Option.some.inj ho
          obtain ⟨_, e71⟩ : ∃ _w : World, a.eval (.tmp 71) = .int .i64 p := (hrd 0 _ 71 rfl rfl (by kernel_rfl) (by kernel_rfl) (by decide)).1
          obtain ⟨_, e72⟩ : ∃ _w : World, a.eval (.tmp 72) = .agg (u8s 64 fun _ => 0) := (hrd 1 _ 72 rfl rfl (by kernel_rfl) (by kernel_rfl) (by decide)).1
          obtain ⟨_, e73⟩ : ∃ _w : World, a.eval (.tmp 73) = .agg (u8s 64 (cf la)) := (hrd 2 _ 73 rfl rfl (by kernel_rfl) (by kernel_rfl) (by decide)).1
          obtain ⟨_, e74⟩ : ∃ _w : World, a.eval (.tmp 74) = .int .i64 iv := (hrd 3 _ 74 rfl rfl (by kernel_rfl) (by kernel_rfl) (by decide)).1
          exact wpv_call 49 [.tmp 71, .tmp 72, .tmp 73, .tmp 74] _ rfl [.int .i64 p, .agg (u8s 64 fun _ => 0), .agg (u8s 64 (cf la)), .int .i64 iv] (by simp only [List.map_cons, List.map_nil, e71, e72, e73, e74]) Try.call49 ((HC.out.2.1 w2).mono fun _ _ ⟨h1, h2⟩ => ⟨_, h1, rfl, h2⟩)
        · obtain rfl := Option.some.inj ho
          have e0 : a.eval (.tmp 0) = .int .i64 p := hpar 0 _ (by kernel_rfl) (by kernel_rfl)
          exact wpv_of (wp_move _ _ rfl e0) (fun _ _ => rfl)
        · obtain rfl := Option.some.inj ho
          exact wpv_of (wp_build_zeroB 25 64 5 rfl uPoly sByte zPoly) (fun _ _ => rfl)
        · obtain rfl := Option.some.inj ho
          exact wpv_of (wp_loadB 25 _ rfl _ (hpar 9 (.pointer (some ⟨g0, 0, none⟩)) (by kernel_rfl) (by kernel_rfl)) _ _ hSx.2.1 _ _ uPoly sPoly) (fun _ _ => rfl)
        · obtain rfl := Option.some.inj ho
          have e21 : a.eval (.tmp 21) = .int .i64 iv := hpar 21 _ (by kernel_rfl) (by kernel_rfl)
          exact wpv_of (wp_move _ _ rfl e21) (fun _ _ => rfl)
        · obtain rfl := Option.some.inj ho
          obtain ⟨_, e76⟩ : ∃ _w : World, a.eval (.tmp 76) = .int .i64 p := (hrd 5 _ 76 rfl rfl (by kernel_rfl) (by kernel_rfl) (by decide)).1
          obtain ⟨_, e77⟩ : ∃ _w : World, a.eval (.tmp 77) = .agg (u8s 64 fun _ => 0) := (hrd 6 _ 77 rfl rfl (by kernel_rfl) (by kernel_rfl) (by decide)).1
          obtain ⟨_, e78⟩ : ∃ _w : World, a.eval (.tmp 78) = .agg (u8s 64 (cf lu)) := (hrd 7 _ 78 rfl rfl (by kernel_rfl) (by kernel_rfl) (by decide)).1
          obtain ⟨_, e79⟩ : ∃ _w : World, a.eval (.tmp 79) = .int .i64 iv := (hrd 8 _ 79 rfl rfl (by kernel_rfl) (by kernel_rfl) (by decide)).1
          exact wpv_call 49 [.tmp 76, .tmp 77, .tmp 78, .tmp 79] _ rfl [.int .i64 p, .agg (u8s 64 fun _ => 0), .agg (u8s 64 (cf lu)), .int .i64 iv] (by simp only [List.map_cons, List.map_nil, e76, e77, e78, e79]) Try.call49 ((HC.out.2.2.1 w2).mono fun _ _ ⟨h1, h2⟩ => ⟨_, h1, rfl, h2⟩)
        · obtain rfl := Option.some.inj ho
          have e0 : a.eval (.tmp 0) = .int .i64 p := hpar 0 _ (by kernel_rfl) (by kernel_rfl)
          exact wpv_of (wp_move _ _ rfl e0) (fun _ _ => rfl)
        · obtain rfl := Option.some.inj ho
          exact wpv_of (wp_build_zeroB 25 64 5 rfl uPoly sByte zPoly) (fun _ _ => rfl)
        · obtain rfl := Option.some.inj ho
          exact wpv_of (wp_loadB 25 _ rfl _ (hpar 11 (.pointer (some ⟨g0 + 1 + 1, 0, none⟩)) (by kernel_rfl) (by kernel_rfl)) _ _ hSx.2.2.1 _ _ uPoly sPoly) (fun _ _ => rfl)
        · obtain rfl := Option.some.inj ho
          have e21 : a.eval (.tmp 21) = .int .i64 iv := hpar 21 _ (by kernel_rfl) (by kernel_rfl)
          exact wpv_of (wp_move _ _ rfl e21) (fun _ _ => rfl)
        · obtain rfl := Option.some.inj ho
          obtain ⟨_, e81⟩ : ∃ _w : World, a.eval (.tmp 81) = .int .i64 p := (hrd 10 _ 81 rfl rfl (by kernel_rfl) (by kernel_rfl) (by decide)).1
          obtain ⟨_, e82⟩ : ∃ _w : World, a.eval (.tmp 82) = .agg (u8s 64 fun _ => 0) := (hrd 11 _ 82 rfl rfl (by kernel_rfl) (by kernel_rfl) (by decide)).1
          obtain ⟨_, e83⟩ : ∃ _w : World, a.eval (.tmp 83) = .agg (u8s 64 (cf lv)) := (hrd 12 _ 83 rfl rfl (by kernel_rfl) (by kernel_rfl) (by decide)).1
          obtain ⟨_, e84⟩ : ∃ _w : World, a.eval (.tmp 84) = .int .i64 iv := (hrd 13 _ 84 rfl rfl (by kernel_rfl) (by kernel_rfl) (by decide)).1
          exact wpv_call 49 [.tmp 81, .tmp 82, .tmp 83, .tmp 84] _ rfl [.int .i64 p, .agg (u8s 64 fun _ => 0), .agg (u8s 64 (cf lv)), .int .i64 iv] (by simp only [List.map_cons, List.map_nil, e81, e82, e83, e84]) Try.call49 ((HC.out.2.2.2 w2).mono fun _ _ ⟨h1, h2⟩ => ⟨_, h1, rfl, h2⟩)
        · exact absurd rfl (hz 0 (by decide))
        · exact absurd rfl (hz 1 (by decide))
        · exact absurd rfl (hz 2 (by decide))
        · simp at ho
      intro vals xE hBx hSx hS0 hcs hrs
      obtain ⟨_, e0⟩ : ∃ _w : World, vals 0 = .int .i64 p := hcs 0 (by simp) (by decide)
      obtain ⟨_, e1⟩ : ∃ _w : World, vals 1 = .agg (u8s 64 fun _ => 0) := hcs 1 (by simp) (by decide)
      obtain ⟨_, e2⟩ : ∃ _w : World, vals 2 = .agg (u8s 64 (cf la)) := hcs 2 (by simp) (by decide)
      obtain ⟨_, e3⟩ : ∃ _w : World, vals 3 = .int .i64 iv := hcs 3 (by simp) (by decide)
      obtain ⟨_, e4⟩ : ∃ _w : World, vals 4 = .agg (u8s 64 (cf s1)) := hcs 4 (by simp) (by decide)
      obtain ⟨_, e5⟩ : ∃ _w : World, vals 5 = .int .i64 p := hcs 5 (by simp) (by decide)
      obtain ⟨_, e6⟩ : ∃ _w : World, vals 6 = .agg (u8s 64 fun _ => 0) := hcs 6 (by simp) (by decide)
      obtain ⟨_, e7⟩ : ∃ _w : World, vals 7 = .agg (u8s 64 (cf lu)) := hcs 7 (by simp) (by decide)
      obtain ⟨_, e8⟩ : ∃ _w : World, vals 8 = .int .i64 iv := hcs 8 (by simp) (by decide)
      obtain ⟨_, e9⟩ : ∃ _w : World, vals 9 = .agg (u8s 64 (cf s2)) := hcs 9 (by simp) (by decide)
      obtain ⟨_, e10⟩ : ∃ _w : World, vals 10 = .int .i64 p := hcs 10 (by simp) (by decide)
      obtain ⟨_, e11⟩ : ∃ _w : World, vals 11 = .agg (u8s 64 fun _ => 0) := hcs 11 (by simp) (by decide)
      obtain ⟨_, e12⟩ : ∃ _w : World, vals 12 = .agg (u8s 64 (cf lv)) := hcs 12 (by simp) (by decide)
      obtain ⟨_, e13⟩ : ∃ _w : World, vals 13 = .int .i64 iv := hcs 13 (by simp) (by decide)
      obtain ⟨_, e14⟩ : ∃ _w : World, vals 14 = .agg (u8s 64 (cf s3)) := hcs 14 (by simp) (by decide)
      have hsE0 : Blk xE (w.heap.size + 1 + 1) (u8s 64 (cf s1)) 25 := hrs 0 (by decide)
      have hsE1 : Blk xE (w.heap.size + 1 + 1 + 1) (u8s 64 (cf s2)) 25 := hrs 1 (by decide)
      have hsE2 : Blk xE (w.heap.size + 1 + 1 + 1 + 1) (u8s 64 (cf s3)) 25 := hrs 2 (by decide)
      simp only [List.length_cons, List.length_nil, Nat.zero_add, Nat.reduceAdd, List.replicate, putAll, if_true, Act.put, List.setIfInBounds_toArray, List.set_cons_zero, List.set_cons_succ, e0, e1, e2, e3, e4, e5, e6, e7, e8, e9, e10, e11, e12, e13, e14]
      replace hA := hSx.1
      replace hU := hSx.2.1
      replace hV := hSx.2.2.1
      clear hcs hrs hS0 hSx e0 e1 e2 e3 e4 e5 e6 e7 e8 e9 e10 e11 e12 e13 e14
      go_wp2_with fail
      exact bodyPost_ret (res_ccc rfl rfl hsE0 uPoly sPoly rfl hsE1 uPoly sPoly rfl hsE2 uPoly sPoly) rfl ⟨by unfold scl; rw [HF.out.1, HF.out.2.1, HF.out.2.2.1, HF.out.2.2.2], hBx⟩
    · have hbn : lb ≠ [] := fun h => h0 (by rw [h]; rfl)
      have hb0 : 0 ≤ (lb.length : Int) - 1 := by omega
      have hR2 := (bzl_go hbn).symm.trans hRr.out
      have hS2 := hS.out.s.step hS.out.pr hS.out.hA hS.out.hB hbn
      have hQP := hS.out.a.quot hS.out.b hbn
      have hRP := hS.out.a.rest hS.out.b hbn
      have hlt := (divp_Po hS.out.pr hS.out.s.pa hS.out.s.pb hbn).2.2
      have hdv := fun w => l01Divide_any la lb p w hS.out.a hS.out.b hbn
      have hm1 := prod_le hQP hS.out.x.po (hS.out.s.iu.prod hS.out.hB hbn)
      have hm2 := prod_le hQP hS.out.y.po (hS.out.s.iv.prod hS.out.hA hbn)
      obtain ⟨q, hq⟩ : ∃ q, (divp p la lb).1 = q := ⟨_, rfl⟩
      obtain ⟨r, hr⟩ : ∃ r, (divp p la lb).2 = r := ⟨_, rfl⟩
      rw [hq, hr] at hR2 hS2 hdv
      rw [hq] at hQP hm1 hm2
      rw [hr] at hRP hlt
      have ht1 := fun w => l01Times_in q lx p w hQP hS.out.x hm1
      have ht2 := fun w => l01Times_in q ly p w hQP hS.out.y hm2
      have hP1 := hQP.mulp hm1
      have hP2 := hQP.mulp hm2
      obtain ⟨m1, hm1e⟩ : ∃ m, mulp p q lx = m := ⟨_, rfl⟩
      obtain ⟨m2, hm2e⟩ : ∃ m, mulp p q ly = m := ⟨_, rfl⟩
      rw [hm1e, hm2e] at hR2 hS2
      rw [hm1e] at ht1 hP1
      rw [hm2e] at ht2 hP2
      have ha1 := fun w => l01Add_list lu m1 p (-1) w hS.out.u hP1 (by decide) (by decide)
      have ha2 := fun w => l01Add_list lv m2 p (-1) w hS.out.v hP2 (by decide) (by decide)
      obtain ⟨n1, hn1e⟩ : ∃ m, addp p lu m1 (-1) = m := ⟨_, rfl⟩
      obtain ⟨n2, hn2e⟩ : ∃ m, addp p lv m2 (-1) = m := ⟨_, rfl⟩
      rw [hn1e, hn2e] at hR2 hS2
      rw [hn1e] at ha1
      rw [hn2e] at ha2
      have HS2 := Lib.hid (BzP.mk hS2 hS.out.pr hS.out.hA hS.out.hB)
      have HR2 := Lib.hid hR2
      have HRP := Lib.hid hRP
      have HC := Lib.hid (And.intro hdv (And.intro ht1 (And.intro ht2 (And.intro ha1 ha2))))
      have hltH := Lib.hid hlt
      clear hR2 hS2 hQP hRP hlt hdv hm1 hm2 hq hr ht1 ht2 hP1 hP2 hm1e hm2e ha1 ha2 hn1e hn2e hbn hRr h0
      go_wp2_with ((with_reducible refine wpl_guard ?_); first | (refine wpl_load_arr rfl 25 _ rfl _ rfl _ _ hD _ _ uPoly sPoly ?_))
      refine (l01Deg_list p lb _ hS.out.b).mono ?_
      rintro e w4 ⟨rfl, hn⟩
      replace hA := hA.keep hn
      replace hD := hD.keep hn
      replace hU := hU.keep hn
      replace hX := hX.keep hn
      replace hV := hV.keep hn
      replace hY := hY.keep hn
      replace hE := hE.keep hn
      replace hF := hF.keep hn
      replace hG := hG.keep hn
      replace hb := below_step hb hn
      clear hn
      go_wp2_with ((with_reducible refine wpl_guard ?_); first | (refine wpl_load_arr rfl 25 (.tmp 4) rfl _ rfl _ _ hA _ _ uPoly sPoly ?_) | (refine wpl_load_arr rfl 25 (.tmp 5) rfl _ rfl _ _ hD _ _ uPoly sPoly ?_))
      refine (HC.out.1 _).mono ?_
      rintro e w5 ⟨rfl, hn⟩
      replace hA := hA.keep hn
      replace hD := hD.keep hn
      replace hU := hU.keep hn
      replace hX := hX.keep hn
      replace hV := hV.keep hn
      replace hY := hY.keep hn
      replace hE := hE.keep hn
      replace hF := hF.keep hn
      replace hG := hG.keep hn
      replace hb := below_step hb hn
      clear hn
      have hl5y := hY.lt
      go_wp2_with ((with_reducible refine wpl_guard ?_); first | (refine wpl_new2 25 zPoly sPoly _ _ rfl rfl rfl rfl rfl _ _ rfl rfl rfl rfl rfl rfl _ rfl rfl _ rfl ?_; intro w6 hn hQ hR; replace hA := hA.keep hn; replace hD := hD.keep hn; replace hU := hU.keep hn; replace hX := hX.keep hn; replace hV := hV.keep hn; replace hY := hY.keep hn; replace hE := hE.keep hn; replace hF := hF.keep hn; replace hG := hG.keep hn; replace hb := below_step hb hn; clear hn) | (refine wpl_load_arr rfl 25 (.tmp 13) rfl _ rfl _ _ hQ _ _ uPoly sPoly ?_) | (refine wpl_load_arr rfl 25 (.tmp 10) rfl _ rfl _ _ hX _ _ uPoly sPoly ?_))
      refine (HC.out.2.1 _).mono ?_
      rintro e w7 ⟨rfl, hn⟩
      replace hA := hA.keep hn
      replace hD := hD.keep hn
      replace hU := hU.keep hn
      replace hX := hX.keep hn
      replace hV := hV.keep hn
      replace hY := hY.keep hn
      replace hE := hE.keep hn
      replace hF := hF.keep hn
      replace hG := hG.keep hn
      replace hQ := hQ.keep hn
      replace hR := hR.keep hn
      replace hb := below_step hb hn
      clear hn
      go_wp2_with ((with_reducible refine wpl_guard ?_); first | (refine wpl_new1 25 zPoly sPoly _ _ rfl rfl rfl rfl rfl rfl _ rfl ?_; intro w8 hn hM; replace hA := hA.keep hn; replace hD := hD.keep hn; replace hU := hU.keep hn; replace hX := hX.keep hn; replace hV := hV.keep hn; replace hY := hY.keep hn; replace hE := hE.keep hn; replace hF := hF.keep hn; replace hG := hG.keep hn; replace hQ := hQ.keep hn; replace hR := hR.keep hn; replace hb := below_step hb hn; clear hn) | (refine wpl_load_arr rfl 25 (.tmp 13) rfl _ rfl _ _ hQ _ _ uPoly sPoly ?_) | (refine wpl_load_arr rfl 25 (.tmp 12) rfl _ rfl _ _ hY _ _ uPoly sPoly ?_))
      refine (HC.out.2.2.1 _).mono ?_
      rintro e w9 ⟨rfl, hn⟩
      replace hA := hA.keep hn
      replace hD := hD.keep hn
      replace hU := hU.keep hn
      replace hX := hX.keep hn
      replace hV := hV.keep hn
      replace hY := hY.keep hn
      replace hE := hE.keep hn
      replace hF := hF.keep hn
      replace hG := hG.keep hn
      replace hQ := hQ.keep hn
      replace hR := hR.keep hn
      replace hM := hM.keep hn
      replace hb := below_step hb hn
      clear hn
      go_wp2_with ((with_reducible refine wpl_guard ?_); first | (refine wpl_new1 25 zPoly sPoly _ _ rfl rfl rfl rfl rfl rfl _ rfl ?_; intro w10 hn hN; replace hA := hA.keep hn; replace hD := hD.keep hn; replace hU := hU.keep hn; replace hX := hX.keep hn; replace hV := hV.keep hn; replace hY := hY.keep hn; replace hE := hE.keep hn; replace hF := hF.keep hn; replace hG := hG.keep hn; replace hQ := hQ.keep hn; replace hR := hR.keep hn; replace hM := hM.keep hn; replace hb := below_step hb hn; clear hn))
      have hlu := hU.lt
      have hly := hY.lt
      have hl5 := hR.lt
      go_upto_region 6 with (fail)
      refine law_region2 (by kernel_rfl) (by kernel_rfl) (by kernel_rfl) (by kernel_rfl)
          (fun i => ([some (.int .i64 p), some (.agg (u8s 64 (cf lu))), some (.agg (u8s 64 (cf m1))), some (.agg (u8s 64 (cf n1))), some (.int .i64 p), some (.agg (u8s 64 (cf lv))), some (.agg (u8s 64 (cf m2))), some (.agg (u8s 64 (cf n2))), none, none, none, none] : List (Option Value)).getD i none) 2 (fun k => [8, 9].getD k 0) (fun k => [10, 11].getD k 0) (fun k => [3, 7].getD k 0) (fun k => [19, 20].getD k 0) (fun k => [53, 57].getD k 0) (fun k => [64, 64].getD k 0) (fun k => [(cf n1), (cf n2)].getD k (fun _ => 0)) (fun k => [25, 25].getD k 0) ?_ ?_ ?_ ?_ ?_ ?_
      · intro i hi
        rcases i with _|_|_|_|_|_|_|_|_|_|_|_|i
        · exact .inl ⟨_, rfl⟩
        · exact .inl ⟨_, rfl⟩
        · exact .inl ⟨_, rfl⟩
        · exact .inl ⟨_, rfl⟩
        · exact .inl ⟨_, rfl⟩
        · exact .inl ⟨_, rfl⟩
        · exact .inl ⟨_, rfl⟩
        · exact .inl ⟨_, rfl⟩
        · exact .inr (.inl ⟨0, by decide, rfl⟩)
        · exact .inr (.inl ⟨1, by decide, rfl⟩)
        · exact .inr (.inr ⟨0, by decide, rfl⟩)
        · exact .inr (.inr ⟨1, by decide, rfl⟩)
        · simp only [List.length_cons, List.length_nil] at hi; omega
      · intro k hk
        rcases k with _|_|k
        · exact ⟨rfl, rfl, rfl, zPoly⟩
        · exact ⟨rfl, rfl, rfl, zPoly⟩
        · omega
      · intro k hk k' hk'
        rcases k with _|_|k
        all_goals rcases k' with _|_|k'
        all_goals first | omega | exact ⟨by decide, by decide, by decide⟩
      · intro k hk
        rcases k with _|_|k
        · kernel_rfl
        · kernel_rfl
        · omega
      · intro i o c ho hc a z2 hB hrd hpar
        rcases i with _|_|_|_|_|_|_|_|_|_|_|_|i
        · obtain rfl := Option.some.inj ho
          obtain rfl := Option.some.inj hc
          exact wp_move _ (.int .i64 p) rfl (hpar 0 _ (by kernel_rfl) (by kernel_rfl))
        · obtain rfl := Option.some.inj ho
          obtain rfl := Option.some.inj hc
          exact wp_loadB 25 _ rfl _ (hpar 9 (.pointer (some ⟨g0, 0, none⟩)) (by kernel_rfl) (by kernel_rfl)) _ _ (hU.keep hB) _ _ uPoly sPoly
        · obtain rfl := Option.some.inj ho
          obtain rfl := Option.some.inj hc
          exact wp_loadB 25 _ rfl _ (hpar 15 (.pointer (some ⟨w7.heap.size, 0, none⟩)) (by kernel_rfl) (by kernel_rfl)) _ _ (hM.keep hB) _ _ uPoly sPoly
        · obtain rfl := Option.some.inj ho
          obtain rfl := Option.some.inj hc
          exact wp_callB 49 [.tmp 50, .tmp 51, .tmp 52, .const (.int .i64 (-1))] _ rfl [.int .i64 p, .agg (u8s 64 (cf lu)), .agg (u8s 64 (cf m1)), .int .i64 (-1)] (by simp only [List.map_cons, List.map_nil, (hrd 0 _ _ 50 rfl rfl rfl (by kernel_rfl) (by kernel_rfl)), (hrd 1 _ _ 51 rfl rfl rfl (by kernel_rfl) (by kernel_rfl)), (hrd 2 _ _ 52 rfl rfl rfl (by kernel_rfl) (by kernel_rfl)), eval_const]) Try.call49 _ (HC.out.2.2.2.1 z2)
        · obtain rfl := Option.some.inj ho
          obtain rfl := Option.some.inj hc
          exact wp_move _ (.int .i64 p) rfl (hpar 0 _ (by kernel_rfl) (by kernel_rfl))
        · obtain rfl := Option.some.inj ho
          obtain rfl := Option.some.inj hc
          exact wp_loadB 25 _ rfl _ (hpar 11 (.pointer (some ⟨g0 + 1 + 1, 0, none⟩)) (by kernel_rfl) (by kernel_rfl)) _ _ (hV.keep hB) _ _ uPoly sPoly
        · obtain rfl := Option.some.inj ho
          obtain rfl := Option.some.inj hc
          exact wp_loadB 25 _ rfl _ (hpar 17 (.pointer (some ⟨w9.heap.size, 0, none⟩)) (by kernel_rfl) (by kernel_rfl)) _ _ (hN.keep hB) _ _ uPoly sPoly
        · obtain rfl := Option.some.inj ho
          obtain rfl := Option.some.inj hc
          exact wp_callB 49 [.tmp 54, .tmp 55, .tmp 56, .const (.int .i64 (-1))] _ rfl [.int .i64 p, .agg (u8s 64 (cf lv)), .agg (u8s 64 (cf m2)), .int .i64 (-1)] (by simp only [List.map_cons, List.map_nil, (hrd 4 _ _ 54 rfl rfl rfl (by kernel_rfl) (by kernel_rfl)), (hrd 5 _ _ 55 rfl rfl rfl (by kernel_rfl) (by kernel_rfl)), (hrd 6 _ _ 56 rfl rfl rfl (by kernel_rfl) (by kernel_rfl)), eval_const]) Try.call49 _ (HC.out.2.2.2.2 z2)
        · cases hc
        · cases hc
        · cases hc
        · cases hc
        · cases hc
      intro vals xS hB hc hr
      have e0 : vals 0 = .int .i64 p := hc 0 _ (by simp) rfl
      have e1 : vals 1 = .agg (u8s 64 (cf lu)) := hc 1 _ (by simp) rfl
      have e2 : vals 2 = .agg (u8s 64 (cf m1)) := hc 2 _ (by simp) rfl
      have e3 : vals 3 = .agg (u8s 64 (cf n1)) := hc 3 _ (by simp) rfl
      have e4 : vals 4 = .int .i64 p := hc 4 _ (by simp) rfl
      have e5 : vals 5 = .agg (u8s 64 (cf lv)) := hc 5 _ (by simp) rfl
      have e6 : vals 6 = .agg (u8s 64 (cf m2)) := hc 6 _ (by simp) rfl
      have e7 : vals 7 = .agg (u8s 64 (cf n2)) := hc 7 _ (by simp) rfl
      obtain ⟨gS0, p0, hgS0, hS0⟩ : ∃ g, vals 8 = .pointer (some ⟨g, 0, none⟩) ∧ _ ≤ g ∧ Blk xS g (u8s 64 (cf n1)) 25 := hr 0 (by decide)
      obtain ⟨gS1, p1, hgS1, hS1⟩ : ∃ g, vals 9 = .pointer (some ⟨g, 0, none⟩) ∧ _ ≤ g ∧ Blk xS g (u8s 64 (cf n2)) 25 := hr 1 (by decide)
      simp only [List.length_cons, List.length_nil, Nat.zero_add, Nat.reduceAdd, List.replicate, putAll, if_true, Act.put, List.setIfInBounds_toArray, List.set_cons_zero, List.set_cons_succ, e0, e1, e2, e3, e4, e5, e6, e7, p0, p1]
      replace hA := hA.keep hB
      replace hD := hD.keep hB
      replace hU := hU.keep hB
      replace hX := hX.keep hB
      replace hV := hV.keep hB
      replace hY := hY.keep hB
      replace hE := hE.keep hB
      replace hF := hF.keep hB
      replace hG := hG.keep hB
      replace hR := hR.keep hB
      replace hb := below_step hb hB
      clear hc hr e0 e1 e2 e3 e4 e5 e6 e7 p0 p1
      clear hB
      have hgS0' := hgS0
      have hgS1' := hgS1
      clear hgS0 hgS1 hQ hM hN
      go_upto_region 7 with (fail)
      refine wp_copy (s := 58) 25 rfl rfl (.tmp 5) (.tmp 4) rfl rfl rfl rfl hD hA (by kernel_rfl) (by kernel_rfl) (by kernel_rfl) uPoly sPoly ?_
      intro z7 khA hk hbb
      replace hD := hk _ _ _ (by omega) hD
      replace hU := hk _ _ _ (by omega) hU
      replace hX := hk _ _ _ (by omega) hX
      replace hV := hk _ _ _ (by omega) hV
      replace hY := hk _ _ _ (by omega) hY
      replace hE := hk _ _ _ (by omega) hE
      replace hF := hk _ _ _ (by omega) hF
      replace hG := hk _ _ _ (by omega) hG
      replace hR := hk _ _ _ (by omega) hR
      replace hS0 := hk _ _ _ (by omega) hS0
      replace hS1 := hk _ _ _ (by omega) hS1
      replace hb := hbb _ _ hb (by omega)
      clear hA hk hbb
      have hA := khA
      clear khA
      simp only [Act.put, List.setIfInBounds_toArray, List.set_cons_zero, List.set_cons_succ]
      go_upto_region 8 with (fail)
      refine wp_copy (s := 59) 25 rfl rfl (.tmp 14) (.tmp 5) rfl rfl rfl rfl hR hD (by kernel_rfl) (by kernel_rfl) (by kernel_rfl) uPoly sPoly ?_
      intro z8 khD hk hbb
      replace hA := hk _ _ _ (by omega) hA
      replace hU := hk _ _ _ (by omega) hU
      replace hX := hk _ _ _ (by omega) hX
      replace hV := hk _ _ _ (by omega) hV
      replace hY := hk _ _ _ (by omega) hY
      replace hE := hk _ _ _ (by omega) hE
      replace hF := hk _ _ _ (by omega) hF
      replace hG := hk _ _ _ (by omega) hG
      replace hR := hk _ _ _ (by omega) hR
      replace hS0 := hk _ _ _ (by omega) hS0
      replace hS1 := hk _ _ _ (by omega) hS1
      replace hb := hbb _ _ hb (by omega)
      clear hD hk hbb
      have hD := khD
      clear khD
      simp only [Act.put, List.setIfInBounds_toArray, List.set_cons_zero, List.set_cons_succ]
      go_upto_region 9 with (fail)
      refine wp_copy (s := 60) 25 rfl rfl (.tmp 10) (.tmp 9) rfl rfl rfl rfl hX hU (by kernel_rfl) (by kernel_rfl) (by kernel_rfl) uPoly sPoly ?_
      intro z9 khU hk hbb
      replace hA := hk _ _ _ (by omega) hA
      replace hD := hk _ _ _ (by omega) hD
      replace hX := hk _ _ _ (by omega) hX
      replace hV := hk _ _ _ (by omega) hV
      replace hY := hk _ _ _ (by omega) hY
      replace hE := hk _ _ _ (by omega) hE
      replace hF := hk _ _ _ (by omega) hF
      replace hG := hk _ _ _ (by omega) hG
      replace hR := hk _ _ _ (by omega) hR
      replace hS0 := hk _ _ _ (by omega) hS0
      replace hS1 := hk _ _ _ (by omega) hS1
      replace hb := hbb _ _ hb (by omega)
      clear hU hk hbb
      have hU := khU
      clear khU
      simp only [Act.put, List.setIfInBounds_toArray, List.set_cons_zero, List.set_cons_succ]
      go_upto_region 10 with (fail)
      refine wp_copy (s := 61) 25 rfl rfl (.tmp 12) (.tmp 11) rfl rfl rfl rfl hY hV (by kernel_rfl) (by kernel_rfl) (by kernel_rfl) uPoly sPoly ?_
      intro z10 khV hk hbb
      replace hA := hk _ _ _ (by omega) hA
      replace hD := hk _ _ _ (by omega) hD
      replace hU := hk _ _ _ (by omega) hU
      replace hX := hk _ _ _ (by omega) hX
      replace hY := hk _ _ _ (by omega) hY
      replace hE := hk _ _ _ (by omega) hE
      replace hF := hk _ _ _ (by omega) hF
      replace hG := hk _ _ _ (by omega) hG
      replace hR := hk _ _ _ (by omega) hR
      replace hS0 := hk _ _ _ (by omega) hS0
      replace hS1 := hk _ _ _ (by omega) hS1
      replace hb := hbb _ _ hb (by omega)
      clear hV hk hbb
      have hV := khV
      clear khV
      simp only [Act.put, List.setIfInBounds_toArray, List.set_cons_zero, List.set_cons_succ]
      go_upto_region 11 with (fail)
      refine wp_copy (s := 62) 25 rfl rfl (.tmp 19) (.tmp 10) rfl rfl rfl rfl hS0 hX (by kernel_rfl) (by kernel_rfl) (by kernel_rfl) uPoly sPoly ?_
      intro z11 khX hk hbb
      replace hA := hk _ _ _ (by omega) hA
      replace hD := hk _ _ _ (by omega) hD
      replace hU := hk _ _ _ (by omega) hU
      replace hV := hk _ _ _ (by omega) hV
      replace hY := hk _ _ _ (by omega) hY
      replace hE := hk _ _ _ (by omega) hE
      replace hF := hk _ _ _ (by omega) hF
      replace hG := hk _ _ _ (by omega) hG
      replace hR := hk _ _ _ (by omega) hR
      replace hS0 := hk _ _ _ (by omega) hS0
      replace hS1 := hk _ _ _ (by omega) hS1
      replace hb := hbb _ _ hb (by omega)
      clear hX hk hbb
      have hX := khX
      clear khX
      simp only [Act.put, List.setIfInBounds_toArray, List.set_cons_zero, List.set_cons_succ]
      go_upto_region 12 with (fail)
      refine wp_copy (s := 63) 25 rfl rfl (.tmp 20) (.tmp 12) rfl rfl rfl rfl hS1 hY (by kernel_rfl) (by kernel_rfl) (by kernel_rfl) uPoly sPoly ?_
      intro z12 khY hk hbb
      replace hA := hk _ _ _ (by omega) hA
      replace hD := hk _ _ _ (by omega) hD
      replace hU := hk _ _ _ (by omega) hU
      replace hX := hk _ _ _ (by omega) hX
      replace hV := hk _ _ _ (by omega) hV
      replace hE := hk _ _ _ (by omega) hE
      replace hF := hk _ _ _ (by omega) hF
      replace hG := hk _ _ _ (by omega) hG
      replace hR := hk _ _ _ (by omega) hR
      replace hS0 := hk _ _ _ (by omega) hS0
      replace hS1 := hk _ _ _ (by omega) hS1
      replace hb := hbb _ _ hb (by omega)
      clear hY hk hbb
      have hY := khY
      clear khY
      simp only [Act.put, List.setIfInBounds_toArray, List.set_cons_zero, List.set_cons_succ]
      go_wp2_with fail
      go_roundw
      case rel => exact ⟨k, lb, r, lx, n1, ly, n2, by have := hltH.out; omega, by omega, HS2, HR2, hA, hD, hU, hX, hV, hY, hE, hF, hG, hb⟩
      case measure =>
        rw [polyLen_blk hD HRP.out.po.tr HRP.out.le, hpl.out]; exact hltH.out
end Go.Proofs.Ytojkngdabejjdaa

/- Walks: rests of arrays, and T times a rest. -/
namespace Go.Proofs.Ytojkngdabejjdaa
open Go.RowKit

set_option maxRecDepth 20000 in
set_option maxHeartbeats 1000000 in
theorem l01Mod_any (xs ms : List Int) (p : Int) (w : World) (hx : P64 p xs) (hm : P64 p ms) (hne : ms ≠ []) :
    Calls Try.prog 34 #[.int .i64 p, .agg (u8s 64 (cf xs)), .agg (u8s 64 (cf ms))] w fun e w' => e = .returned (.agg (u8s 64 (cf (rst p xs ms)))) ∧ Below w.heap.size w w' := by
  have hdv := fun w => l01Divide_any xs ms p w hx hm hne
  unfold rst
  obtain ⟨q, hq⟩ : ∃ q, (divp p xs ms).1 = q := ⟨_, rfl⟩
  obtain ⟨r, hr⟩ : ∃ r, (divp p xs ms).2 = r := ⟨_, rfl⟩
  rw [hq, hr] at hdv
  rw [hr]
  have hdvH := Lib.hid hdv
  clear hdv hq hr hx hm hne
  obtain ⟨hb, hA, hD, hE⟩ := boxes3 w (u8s 64 (cf xs)) (u8s 64 (cf ms)) (u8s 64 fun _ => 0) 25 25 25
  go_enter Try.func34, Try.ntmps34
  go_wp2_with (first | (refine wpl_alloc_arr rfl 25 rfl _ zPoly ?_) | (refine wpl_load_arr rfl 25 _ rfl _ rfl _ _ hA _ _ uPoly sPoly ?_) | (refine wpl_load_arr rfl 25 _ rfl _ rfl _ _ hD _ _ uPoly sPoly ?_))
  refine (hdvH.out _).mono ?_
  rintro e w3 ⟨rfl, hn⟩
  replace hE := hE.keep hn
  replace hb := below_step hb hn
  clear hn
  have hel := hE.lt
  clear hA hD
  go_upto_region 2 with ((with_reducible refine wpl_guard ?_); first | (refine wpl_new2 25 zPoly sPoly _ _ rfl rfl rfl rfl rfl _ _ rfl rfl rfl rfl rfl rfl _ rfl rfl _ rfl ?_; intro w4 hn hN1 hN2; replace hE := hE.keep hn; replace hb := below_step hb hn; clear hn))
  go_wp2_with ((with_reducible refine wpl_guard ?_); first | (refine wpl_load_arr rfl 25 _ rfl _ rfl _ _ hN2 _ _ uPoly sPoly ?_) | (refine wpl_store_arr rfl 25 _ _ rfl _ rfl _ rfl _ _ hE sPoly (by simp only [u8s_size]) (u8s_oneCell _ _) ?_))
  exact bodyPost_ret (res_c rfl rfl (hE.setRow_same (cs := u8s 64 (cf r))) uPoly sPoly) rfl ⟨rfl, below_setRow hb (by omega) _⟩

/-- T times a rest, ahead of the division. -/
def shF (xs : List Int) (j : Nat) : Nat → Int := fun i => if 1 ≤ i ∧ i < j then cf xs (i - 1) else 0
def upF (p q : Int) (xs ms : List Int) (n j : Nat) : Nat → Int := fun i => if i < j then (shF xs n i - q * cf ms i) % p else shF xs n i
theorem upF_all {p : Int} {xs ms : List Int} (hm : P64 p ms) (n : Nat) (hn : ms.length = n + 1) (h1 : 1 ≤ n) (hl : xs.length < ms.length) (q : Int) (hq : cf xs (n - 1) * invp p (cf ms n) % p = q) (i : Nat) : upF p q xs ms n n i = cf (mulmod p [0, 1] xs ms) i := by
  rw [← up_eq hm.pr hm.po (by omega) hl, mkp_cf, hn, Nat.add_sub_cancel, show n + 1 - 2 = n - 1 by omega, hq]
  unfold upF shF
  by_cases h : i < n
  · rw [if_pos h, if_pos h]
    by_cases e : i = 0
    · rw [if_neg (by omega), if_pos e]
    · rw [if_pos (by omega), if_neg e]
  · rw [if_neg h, if_neg h, if_neg (by omega)]

set_option maxRecDepth 20000 in
set_option maxHeartbeats 2000000 in
theorem l01Up_any (xs ms : List Int) (p : Int) (w : World) (hx : P64 p xs) (hm : P64 p ms) (hl : xs.length < ms.length) :
    Calls Try.prog 53 #[.int .i64 p, .agg (u8s 64 (cf xs)), .agg (u8s 64 (cf ms))] w fun e w' => e = .returned (.agg (u8s 64 (cf (mulmod p [0, 1] xs ms)))) ∧ Below w.heap.size w w' := by
  have hdg := Lib.hid (fun w => l01Deg_list p ms w hm)
  obtain ⟨n, hn⟩ : ∃ n, ms.length = n + 1 := ⟨ms.length - 1, by omega⟩
  have hp1 := hx.pr.pos.1
  have hp2 := hx.pr.pos.2
  have hpz : (p == 0) = false := by rw [beq_eq_false_iff_ne]; omega
  have hne : ms ≠ [] := fun e => by rw [e] at hn; simp at hn
  have hi := invp_spec hm.pr (hm.po.lead hne) (hm.po.md _).2
  have hiv := fun w => l01Inverse_any p (cf ms (ms.length - 1)) w hm.pr (hm.po.lead hne) (hm.po.md _).2
  have h1 := fun h : ms.length = 1 => up_one (a := xs) hm.pr hm.po h
  have hall := fun (h1 : 1 ≤ n) (q : Int) (hq : cf xs (n - 1) * invp p (cf ms n) % p = q) (i : Nat) => upF_all hm n hn h1 hl q hq i
  have hxR := Lib.hid hx.rng
  have hmR := Lib.hid hm.rng
  have hprH := Lib.hid hx.pr
  have hn64 : n < 64 := by have := hm.le; omega
  rw [hn, Nat.add_sub_cancel] at hi hiv
  have hi0 := hi.1
  have hi1 := hi.2.1
  have hni : (ms.length : Int) - 1 = (n : Int) := by omega
  rw [hni] at hdg
  rw [hn] at h1
  generalize invp p (cf ms n) = inv at hiv hall hi0 hi1
  obtain ⟨R, hR⟩ : ∃ R, mulmod p [0, 1] xs ms = R := ⟨_, rfl⟩
  rw [hR] at h1 hall
  rw [hR]
  have hivH := Lib.hid hiv
  have h1H := Lib.hid h1
  have hallH := Lib.hid hall
  clear hx hm hl hn hne hi hiv h1 hall hni hR
  obtain ⟨hb, hA, hD, hE⟩ := boxes3 w (u8s 64 (cf xs)) (u8s 64 (cf ms)) (u8s 64 fun _ => 0) 25 25 25
  go_enter Try.func53, Try.ntmps53
  go_wp2_with (first | (refine wpl_alloc_arr rfl 25 rfl _ zPoly ?_) | (refine wpl_load_arr rfl 25 _ rfl _ rfl _ _ hD _ _ uPoly sPoly ?_))
  refine (hdg.out _).mono ?_
  rintro e w1 ⟨rfl, hn⟩
  replace hA := hA.keep hn
  replace hD := hD.keep hn
  replace hE := hE.keep hn
  replace hb := below_step hb hn
  clear hn
  by_cases h0 : n = 0
  · have hR0 := Lib.hid (h1H.out (by omega))
    have hz : ((n : Int) == 0) = true := by rw [h0]; rfl
    clear h0 h1H hallH
    go_wp2_with (first | (refine wpl_build_zero rfl 25 64 5 rfl _ uPoly sByte zPoly ?_) | (refine wpl_store_arr rfl 25 _ _ rfl _ rfl _ rfl _ _ hE sPoly (by simp only [u8s_size]) (u8s_oneCell _ _) ?_))
    exact bodyPost_ret (res_c rfl rfl (hE.setRow_same (cs := u8s 64 fun _ => 0)) uPoly sPoly) rfl ⟨by rw [hR0.out, cf_void], below_setRow hb (by omega) _⟩
  · obtain ⟨m, rfl⟩ : ∃ m, n = m + 1 := ⟨n - 1, by omega⟩
    have hz : ((((m + 1 : Nat) : Int)) == 0) = false := by rw [beq_eq_false_iff_ne]; omega
    have hm1 : ((m + 1 : Nat) : Int) - 1 = (m : Int) := by omega
    have hm64 : (m : Int) < 64 := by omega
    have c0 : w1.cell? ⟨w.heap.size, m, none⟩ = some (.int .u8 (cf xs m)) := by rw [hA.cell, u8s_get _ (by omega)]
    have hQ0 : w1.heap.size ≠ w.heap.size := by have := hA.lt; omega
    have hQ1 : w1.heap.size ≠ w.heap.size + 1 := by have := hD.lt; omega
    have hQ2 : w1.heap.size ≠ w.heap.size + 1 + 1 := by have := hE.lt; omega
    have hge : w.heap.size ≤ w1.heap.size := by have := hA.lt; omega
    have hall2 := Lib.hid (fun (q : Int) (hq : cf xs m * inv % p = q) (i : Nat) => hallH.out (by omega) q (by rw [Nat.add_sub_cancel]; exact hq) i)
    clear hallH h1H h0
    have hx0 := (hxR.out m).1
    have hx1 := (hxR.out m).2
    go_wp2_with (first | (refine wpl_alloc_arr rfl 25 rfl _ zPoly ?_) | (refine wpl_build_zero rfl 25 64 5 rfl _ uPoly sByte zPoly ?_) | (refine wpl_store_new rfl 25 _ _ rfl _ rfl rfl _ rfl sPoly rfl (u8s_oneCell _ _) ?_))
    have hN := Blk.new w1 (u8s 64 fun _ => 0) 25
    replace hA := hA.alloc (.cells (u8s 64 fun _ => 0) 25)
    replace hD := hD.alloc (.cells (u8s 64 fun _ => 0) 25)
    replace hE := hE.alloc (.cells (u8s 64 fun _ => 0) 25)
    replace hb := below_step hb (below_new w1 (.cells (u8s 64 fun _ => 0) 25))
    clear c0
    go_loopw [10] (fun i wr => ∃ j : Nat, 1 ≤ j ∧ j ≤ m + 1 ∧ i = .int .i64 j ∧ Blk wr w.heap.size (u8s 64 (cf xs)) 25 ∧ Blk wr (w.heap.size + 1) (u8s 64 (cf ms)) 25 ∧ Blk wr (w.heap.size + 1 + 1) (u8s 64 fun _ => 0) 25 ∧ Blk wr w1.heap.size (u8s 64 (shF xs j)) 25 ∧ Below w.heap.size w wr) (fun i _ => 64 - (intOf i).toNat)
    case atStart => exact ⟨1, by omega, by omega, rfl, hA, hD, hE, hN.cast (u8s_ext fun i _ => by unfold shF; rw [if_neg (by omega)]), hb⟩
    case round =>
      clear hA hD hE hN hb
      obtain ⟨j, hj1, hj2, rfl, hA, hD, hE, hN, hb⟩ := hrel
      by_cases hlt : j < m + 1
      · obtain ⟨k, rfl⟩ : ∃ k, j = k + 1 := ⟨j - 1, by omega⟩
        have c0 : wr.cell? ⟨w.heap.size, k, none⟩ = some (.int .u8 (cf xs k)) := by rw [hA.cell, u8s_get _ (by omega)]
        have c1 : wr.cell? ⟨w1.heap.size, k + 1, none⟩ = some (.int .u8 0) := by rw [hN.cell, u8s_get _ (by omega)]; unfold shF; rw [if_neg (by omega)]
        have c2 := hN.free (k + 1)
        have hk1 : ((k + 1 : Nat) : Int) - 1 = (k : Int) := by omega
        have hk64 : ((k + 1 : Nat) : Int) < 64 := by omega
        have hk63 : (k : Int) < 64 := by omega
        go_wp2_with fail
        go_roundw
        case rel =>
          refine ⟨k + 2, by omega, by omega, by go_num, hA.set_other _ _ (by simp; omega), hD.set_other _ _ (by simp; omega), hE.set_other _ _ (by simp; omega), ?_, hb.setCell (by simp; omega) _⟩
          refine (hN.set (k + 1) _).cast ?_
          rw [u8s_set]; apply u8s_ext; intro i _
          unfold shF
          by_cases e1 : i = k + 1
          · subst e1; rw [if_pos rfl, if_pos (by omega), Nat.add_sub_cancel]
          · rw [if_neg e1]
            by_cases e2 : 1 ≤ i ∧ i < k + 1
            · rw [if_pos e2, if_pos (by omega)]
            · rw [if_neg e2, if_neg (by omega)]
        case measure => simp [intOf] <;> omega
      · obtain rfl : j = m + 1 := by omega
        have c0 : wr.cell? ⟨w.heap.size + 1, m + 1, none⟩ = some (.int .u8 (cf ms (m + 1))) := by rw [hD.cell, u8s_get _ (by omega)]
        have hk64 : ((m + 1 : Nat) : Int) < 64 := by omega
        have ht := term_bound hx0 hx1 (show 0 ≤ inv by omega) (show inv ≤ 6 by omega)
        have ht0 := ht.1
        have ht1 := ht.2
        have hqb := mulmod_bound (p := p) (x := cf xs m) (y := inv) (by omega)
        have hq0 := hqb.1
        have hq1 := hqb.2
        clear ht hqb hj1 hj2
        go_wp2_with fail
        refine (hivH.out _).mono ?_
        rintro e w2 ⟨rfl, rfl⟩
        go_wp2_with fail
        have hall3 := Lib.hid (hall2.out _ rfl)
        clear hall2 c0
        generalize cf xs m * inv % p = q at *
        go_loopw [12] (fun i wr => ∃ j : Nat, j ≤ m + 1 ∧ i = .int .i64 j ∧ Blk wr w.heap.size (u8s 64 (cf xs)) 25 ∧ Blk wr (w.heap.size + 1) (u8s 64 (cf ms)) 25 ∧ Blk wr (w.heap.size + 1 + 1) (u8s 64 fun _ => 0) 25 ∧ Blk wr w1.heap.size (u8s 64 (upF p q xs ms (m + 1) j)) 25 ∧ Below w.heap.size w wr) (fun i _ => 64 - (intOf i).toNat)
        case atStart => exact ⟨0, by omega, rfl, hA, hD, hE, hN.cast (u8s_ext fun i _ => by unfold upF; rw [if_neg (by omega)]), hb⟩
        case round =>
          clear hA hD hE hN hb
          obtain ⟨j, hj2, rfl, hA, hD, hE, hN, hb⟩ := hrel
          by_cases hlt : j < m + 1
          · have c0 : wr.cell? ⟨w.heap.size + 1, j, none⟩ = some (.int .u8 (cf ms j)) := by rw [hD.cell, u8s_get _ (by omega)]
            have c1 : wr.cell? ⟨w1.heap.size, j, none⟩ = some (.int .u8 (shF xs (m + 1) j)) := by rw [hN.cell, u8s_get _ (by omega)]; unfold upF; rw [if_neg (by omega)]
            have c2 := hN.free j
            have hs : 0 ≤ shF xs (m + 1) j ∧ shF xs (m + 1) j ≤ 6 := by
              unfold shF; split
              · exact hxR.out _
              · omega
            have hs0 := hs.1
            have hs1 := hs.2
            have hy0 := (hmR.out j).1
            have hy1 := (hmR.out j).2
            have ht := term_bound hq0 (show q ≤ 6 by omega) hy0 hy1
            have ht0 := ht.1
            have ht1 := ht.2
            have htm := tmod_range p (shF xs (m + 1) j - q * cf ms j) (by omega)
            have htm0 := htm.1
            have htm1 := htm.2
            have hrr := Lib.hid (tmod_reduce p (shF xs (m + 1) j - q * cf ms j) (by omega))
            have hru := addF_range hprH.out ((shF xs (m + 1) j - q * cf ms j).tmod p + p)
            have hru0 := hru.1
            have hru1 := hru.2
            have hj64 : (j : Int) < 64 := by omega
            clear hs ht htm hru
            go_wp2_with fail
            go_region
            go_wp2
            go_roundw
            case rel =>
              refine ⟨j + 1, by omega, by go_num, (hA.set_other _ _ (by simp; omega)).drew, (hD.set_other _ _ (by simp; omega)).drew, (hE.set_other _ _ (by simp; omega)).drew, ?_, (hb.setCell (by simp; omega) _).drew⟩
              refine ((hN.set j _).cast ?_).drew
              rw [u8s_set]; apply u8s_ext; intro i _
              unfold upF
              by_cases e1 : i = j
              · subst e1
                have e : (shF xs (m + 1) i - q * cf ms i).tmod p % p = (shF xs (m + 1) i - q * cf ms i) % p := by simpa using hrr.out
                have hq := addF_range hprH.out (shF xs (m + 1) i - q * cf ms i)
                simp [e, Int.emod_eq_of_lt hq.1 (show (shF xs (m + 1) i - q * cf ms i) % p < 256 by omega)]
              · by_cases e2 : i < j
                · simp [e1, e2, show i < j + 1 by omega]
                · simp [e1, e2, show ¬ i < j + 1 by omega]
            case measure => simp [intOf] <;> omega
          · obtain rfl : j = m + 1 := by omega
            have hN2 : Blk wr w1.heap.size (u8s 64 (cf R)) 25 := hN.cast (u8s_ext fun i _ => hall3.out i)
            clear hN
            go_wp2_with (first | (refine wpl_load_arr rfl 25 _ rfl _ rfl _ _ hN2 _ _ uPoly sPoly ?_) | (refine wpl_store_arr rfl 25 _ _ rfl _ rfl _ rfl _ _ hE sPoly (by simp only [u8s_size]) (u8s_oneCell _ _) ?_))
            exact bodyPost_ret (res_c rfl rfl (hE.setRow_same (cs := u8s 64 (cf R))) uPoly sPoly) rfl ⟨rfl, below_setRow hb (by omega) _⟩
end Go.Proofs.Ytojkngdabejjdaa

/- Walks: products and powers of arrays modulo an array. -/
namespace Go.Proofs.Ytojkngdabejjdaa
open Go.RowKit

set_option maxRecDepth 20000 in
set_option maxHeartbeats 2000000 in
theorem l01MulMod_any (xs ys ms : List Int) (p : Int) (w : World) (hx : P64 p xs) (hy : P64 p ys) (hm : P64 p ms) (hne : ms ≠ []) :
    Calls Try.prog 35 #[.int .i64 p, .agg (u8s 64 (cf xs)), .agg (u8s 64 (cf ys)), .agg (u8s 64 (cf ms))] w fun e w' => e = .returned (.agg (u8s 64 (cf (mulmod p xs ys ms)))) ∧ Below w.heap.size w w' := by
  have hHe := hrn_eq (a := xs) hx.pr hm.po hne ys
  obtain ⟨R, hR⟩ : ∃ R, mulmod p xs ys ms = R := ⟨_, rfl⟩
  rw [hR] at hHe
  rw [hR]
  have hdg := Lib.hid (fun w => l01Deg_list p ys w hy)
  have HX := Lib.hid hx
  have HY := Lib.hid hy
  have HM := Lib.hid hm
  have HN := Lib.hid hne
  have HR := Lib.hid hHe
  obtain ⟨LY, hLY⟩ : ∃ n, ys.length = n := ⟨_, rfl⟩
  have HL := Lib.hid hLY
  have hly : LY ≤ 64 := hLY ▸ hy.le
  clear hx hy hm hne hHe hR hLY
  obtain ⟨w0, hw0, hb, hA, hD, hM, hE, hN⟩ := boxes5 w (u8s 64 (cf xs)) (u8s 64 (cf ys)) (u8s 64 (cf ms)) (u8s 64 fun _ => 0) (u8s 64 fun _ => 0) 25 25 25 25 25
  have hw0H := Lib.hid hw0.symm
  clear hw0
  go_enter Try.func35, Try.ntmps35
  go_upto_region 2 with (first | (refine wpl_alloc_arr rfl 25 rfl _ zPoly ?_) | (refine wpl_build_zero rfl 25 64 5 rfl _ uPoly sByte zPoly ?_) | (refine wpl_store_new rfl 25 _ _ rfl _ rfl (by first | rfl | simp) _ rfl sPoly rfl (u8s_oneCell _ _) ?_))
  rw [hw0H.out]
  clear hw0H
  go_wp2_with ((with_reducible refine wpl_guard ?_); first | (refine wpl_load_arr rfl 25 _ rfl _ rfl _ _ hD _ _ uPoly sPoly ?_))
  refine (hdg.out _).mono ?_
  rintro e w1 ⟨rfl, hn⟩
  replace hA := hA.keep hn
  replace hD := hD.keep hn
  replace hM := hM.keep hn
  replace hE := hE.keep hn
  replace hN := hN.keep hn
  replace hb := below_step hb hn
  clear hn
  rw [HL.out]
  obtain ⟨gN, hgN⟩ : ∃ g, w.heap.size + 1 + 1 + 1 + 1 = g := ⟨_, rfl⟩
  simp only [hgN] at hN ⊢
  go_wp2_with fail
  go_loopw [10] (fun i wr => ∃ k : Nat, k ≤ LY ∧ i = .int .i64 ((k : Int) - 1) ∧ Blk wr w.heap.size (u8s 64 (cf xs)) 25 ∧ Blk wr (w.heap.size + 1) (u8s 64 (cf ys)) 25 ∧ Blk wr (w.heap.size + 1 + 1) (u8s 64 (cf ms)) 25 ∧ Blk wr (w.heap.size + 1 + 1 + 1) (u8s 64 fun _ => 0) 25 ∧ Blk wr gN (u8s 64 (cf (hrn p xs ms (ys.drop k)))) 25 ∧ Below w.heap.size w wr) (fun i _ => (intOf i + 1).toNat)
  case atStart => exact ⟨LY, Nat.le_refl _, rfl, hA, hD, hM, hE, hN.cast (u8s_ext fun i _ => by rw [← HL.out, List.drop_length]; exact (cf_nil i).symm), hb⟩
  case round =>
    clear hA hD hM hE hN hb
    obtain ⟨k, hk, hi, hA, hD, hM, hE, hN, hb⟩ := hrel
    by_cases h0 : k = 0
    · subst h0
      simp only [Int.natCast_zero, Int.zero_sub] at hi
      subst hi
      rw [List.drop_zero, HR.out] at hN
      go_wp2_with ((with_reducible refine wpl_guard ?_); first | (refine wpl_load_arr rfl 25 _ rfl _ rfl _ _ hN _ _ uPoly sPoly ?_) | (refine wpl_store_arr rfl 25 _ _ rfl _ rfl _ rfl _ _ hE sPoly (by simp only [u8s_size]) (u8s_oneCell _ _) ?_))
      exact bodyPost_ret (res_c rfl rfl (hE.setRow_same (cs := u8s 64 (cf R))) uPoly sPoly) rfl ⟨rfl, below_setRow hb (by omega) _⟩
    · obtain ⟨m, rfl⟩ : ∃ m, k = m + 1 := ⟨k - 1, by omega⟩
      rw [show (((m + 1 : Nat) : Int) - 1) = (m : Int) by omega] at hi
      subst hi
      have hHP := hrn_Po (a := xs) HX.out.pr HM.out.po HN.out (ys.drop (m + 1))
      have hst := hrn_drop p xs ms ys m (by have := HL.out; omega)
      have hP0 : P64 p (hrn p xs ms (ys.drop (m + 1))) := ⟨HX.out.pr, hHP.1, by have := HM.out.le; have := hHP.2; omega⟩
      have hup := fun w => l01Up_any (hrn p xs ms (ys.drop (m + 1))) ms p w hP0 HM.out hHP.2
      have hP1 : P64 p (mulmod p [0, 1] (hrn p xs ms (ys.drop (m + 1))) ms) := ⟨HX.out.pr, mulmod_Po HX.out.pr HM.out.po HN.out, by have := HM.out.le; have := mulmod_lt HX.out.pr (a := [0, 1]) (b := hrn p xs ms (ys.drop (m + 1))) HM.out.po HN.out; omega⟩
      have hy0 := (HY.out.rng m).1
      have hy1 := (HY.out.rng m).2
      have had := fun w => l01Add_list _ xs p (cf ys m) w hP1 HX.out (by omega) (by omega)
      have hmd := fun w => l01Mod_any _ ms p w (hP1.addp HX.out (cf ys m)) HM.out HN.out
      obtain ⟨H0, hH0⟩ : ∃ c, hrn p xs ms (ys.drop (m + 1)) = c := ⟨_, rfl⟩
      rw [hH0] at hup had hmd hst hN
      obtain ⟨H1, hH1⟩ : ∃ c, mulmod p [0, 1] H0 ms = c := ⟨_, rfl⟩
      rw [hH1] at hup had hmd hst
      obtain ⟨H2, hH2⟩ : ∃ c, addp p H1 xs (cf ys m) = c := ⟨_, rfl⟩
      rw [hH2] at had hmd hst
      obtain ⟨H3, hH3⟩ : ∃ c, rst p H2 ms = c := ⟨_, rfl⟩
      rw [hH3] at hmd hst
      have HC := Lib.hid (And.intro hup (And.intro had hmd))
      have HS := Lib.hid hst
      have hm64 : m < 64 := by omega
      have hmge : ¬ (m : Int) < 0 := by omega
      clear hHP hst hP0 hup hP1 had hmd hH0 hH1 hH2 hH3 h0
      go_wp2_with ((with_reducible refine wpl_guard ?_); first | (refine wpl_load_arr rfl 25 _ rfl _ rfl _ _ hN _ _ uPoly sPoly ?_) | (refine wpl_load_arr rfl 25 _ rfl _ rfl _ _ hM _ _ uPoly sPoly ?_))
      refine (HC.out.1 _).mono ?_
      rintro e w2 ⟨rfl, hn⟩
      replace hA := hA.keep hn
      replace hD := hD.keep hn
      replace hM := hM.keep hn
      replace hE := hE.keep hn
      replace hN := hN.keep hn
      replace hb := below_step hb hn
      clear hn
      have hk9 := hk
      clear hk
      go_upto_region 6 with ((with_reducible refine wpl_guard ?_); first | (refine wpl_sto1 25 sPoly (.tmp 9) _ rfl rfl rfl _ rfl _ rfl _ hN ?_; intro _ khN hk hbb; replace hA := hk _ _ _ (by omega) hA; replace hD := hk _ _ _ (by omega) hD; replace hM := hk _ _ _ (by omega) hM; replace hE := hk _ _ _ (by omega) hE; replace hb := hbb _ _ hb (by omega); clear hk hbb hN; have hN := khN; clear khN))
      refine gen_region (ws := w) (w := _) (B := w.heap.size) (by kernel_rfl) (by kernel_rfl) (by kernel_rfl) (by kernel_rfl)
          (fun i => ([fun v _ => v = .int .i64 p, fun v _ => v = .int .i64 p, fun v _ => v = .agg (u8s 64 (cf H1)), fun v _ => v = .agg (u8s 64 (cf xs)), fun v _ => v = .int .i64 m, fun v _ => v = .pointer (some ⟨w.heap.size + 1, m, none⟩), fun v _ => v = .int .u8 (cf ys m), fun v _ => v = .int .i64 (cf ys m), fun v _ => v = .agg (u8s 64 (cf H2)), fun v _ => v = .agg (u8s 64 (cf ms)), fun v _ => v = .agg (u8s 64 (cf H3)), fun _ _ => True] : List (Value → World → Prop)).getD i (fun _ _ => True))
          (fun i => ([true, true, false, true, true, false, false, false, false, true, false, true] : List Bool).getD i true)
          1 (fun k => [11].getD k 0) (fun k => [10].getD k 0) (fun k => [9].getD k 0) (fun k => [32].getD k 0) (fun k => [gN].getD k 0) (fun k => [64].getD k 0) (fun k => [(cf H3)].getD k (fun _ => 0)) (fun k => [(cf H1)].getD k (fun _ => 0)) (fun k => [25].getD k 0) hb (Nat.le_refl _)
          (fun w' => Blk w' (w.heap.size) (u8s 64 (cf xs)) 25 ∧ Blk w' (w.heap.size + 1) (u8s 64 (cf ys)) 25 ∧ Blk w' (w.heap.size + 1 + 1) (u8s 64 (cf ms)) 25 ∧ Blk w' (w.heap.size + 1 + 1 + 1) (u8s 64 fun _ => 0) 25 ∧ True) ⟨hA.drew, hD.drew, hM.drew, hE.drew, trivial⟩ (fun w1 w2 h hb => ⟨h.1.keep hb, h.2.1.keep hb, h.2.2.1.keep hb, h.2.2.2.1.keep hb, trivial⟩) ?_ ?_ ?_ ?_ ?_ ?_ ?_
      · intro k hk w1 cs h
        rcases k with _|k
        · exact ⟨h.1.setRow_other (by simp only [List.getD_cons_zero, List.getD_cons_succ] <;> omega), h.2.1.setRow_other (by simp only [List.getD_cons_zero, List.getD_cons_succ] <;> omega), h.2.2.1.setRow_other (by simp only [List.getD_cons_zero, List.getD_cons_succ] <;> omega), h.2.2.2.1.setRow_other (by simp only [List.getD_cons_zero, List.getD_cons_succ] <;> omega), trivial⟩
        · omega
      · intro i v w1 w2 h hb
        rcases i with _|_|_|_|_|_|_|_|_|_|_|_|i
        · exact h
        · exact h
        · exact h
        · exact h
        · exact h
        · exact h
        · exact h
        · exact h
        · exact h
        · exact h
        · exact h
        · exact h
        · exact h
      · intro k hk
        rcases k with _|k
        · kernel_rfl
        · omega
      · intro k hk
        rcases k with _|k
        · refine ⟨?_, (by kernel_rfl), hN, fun v w' h => h, by decide, ?_⟩
          · simp only [List.getD_cons_zero, List.getD_cons_succ] <;> omega
          · intro k' hk' hne
            rcases k' with _|k'
            all_goals first | omega | exact absurd rfl hne | (refine ⟨?_, by decide⟩; simp only [List.getD_cons_zero, List.getD_cons_succ]; omega)
        · omega
      · kernel_rfl
      · intro i o ho hz a w2 hBs hSx hBl hrd hpar
        rcases i with _|_|_|_|_|_|_|_|_|_|_|_|i
        · obtain rfl := Option.some.inj ho
          have e0 : a.eval (.tmp 0) = .int .i64 p := hpar 0 _ (by kernel_rfl) (by kernel_rfl)
          exact wpv_of (wp_move _ _ rfl e0) (fun _ _ => rfl)
        · obtain rfl := Option.some.inj ho
          have e0 : a.eval (.tmp 0) = .int .i64 p := hpar 0 _ (by kernel_rfl) (by kernel_rfl)
          exact wpv_of (wp_move _ _ rfl e0) (fun _ _ => rfl)
        · obtain rfl := Option.some.inj ho
          exact wpv_of (wp_loadB 25 _ rfl _ (hpar 9 (.pointer (some ⟨gN, 0, none⟩)) (by kernel_rfl) (by kernel_rfl)) _ _ (hN.keep (hBl rfl)) _ _ uPoly sPoly) (fun _ _ => rfl)
        · obtain rfl := Option.some.inj ho
          exact wpv_of (wp_loadB 25 _ rfl _ (hpar 5 (.pointer (some ⟨w.heap.size, 0, none⟩)) (by kernel_rfl) (by kernel_rfl)) _ _ hSx.1 _ _ uPoly sPoly) (fun _ _ => rfl)
        · obtain rfl := Option.some.inj ho
          have e10 : a.eval (.tmp 10) = .int .i64 m := hpar 10 _ (by kernel_rfl) (by kernel_rfl)
          exact wpv_of (wp_move _ _ rfl e10) (fun _ _ => rfl)
        · obtain rfl := Option.some.inj ho
          obtain ⟨_, e26⟩ : ∃ _w : World, a.eval (.tmp 26) = .int .i64 m := (hrd 4 _ 26 rfl rfl (by kernel_rfl) (by kernel_rfl) (by decide)).1
          exact wpv_of (wp_index_arr 25 5 64 _ _ rfl uPoly sByte (w.heap.size + 1) m .i64 (hpar 6 _ (by kernel_rfl) (by kernel_rfl)) e26 (by omega)) (fun _ _ => rfl)
        · obtain rfl := Option.some.inj ho
          obtain ⟨_, e27⟩ : ∃ _w : World, a.eval (.tmp 27) = .pointer (some ⟨w.heap.size + 1, m, none⟩) := (hrd 5 _ 27 rfl rfl (by kernel_rfl) (by kernel_rfl) (by decide)).1
          exact wpv_of (wp_load_cell 5 _ rfl _ e27 .u8 uByte _ (by rw [hSx.2.1.cell, u8s_get _ (by omega)])) (fun _ _ => rfl)
        · obtain rfl := Option.some.inj ho
          obtain ⟨_, e28⟩ : ∃ _w : World, a.eval (.tmp 28) = .int .u8 (cf ys m) := (hrd 6 _ 28 rfl rfl (by kernel_rfl) (by kernel_rfl) (by decide)).1
          exact wpv_of (wp_conv_u8 5 2 _ rfl _ e28 hy0 (by omega) uByte uInt) (fun _ _ => rfl)
        · obtain rfl := Option.some.inj ho
          obtain ⟨_, e23⟩ : ∃ _w : World, a.eval (.tmp 23) = .int .i64 p := (hrd 1 _ 23 rfl rfl (by kernel_rfl) (by kernel_rfl) (by decide)).1
          obtain ⟨_, e24⟩ : ∃ _w : World, a.eval (.tmp 24) = .agg (u8s 64 (cf H1)) := (hrd 2 _ 24 rfl rfl (by kernel_rfl) (by kernel_rfl) (by decide)).1
          obtain ⟨_, e25⟩ : ∃ _w : World, a.eval (.tmp 25) = .agg (u8s 64 (cf xs)) := (hrd 3 _ 25 rfl rfl (by kernel_rfl) (by kernel_rfl) (by decide)).1
          obtain ⟨_, e29⟩ : ∃ _w : World, a.eval (.tmp 29) = .int .i64 (cf ys m) := (hrd 7 _ 29 rfl rfl (by kernel_rfl) (by kernel_rfl) (by decide)).1
          exact wpv_call 49 [.tmp 23, .tmp 24, .tmp 25, .tmp 29] _ rfl [.int .i64 p, .agg (u8s 64 (cf H1)), .agg (u8s 64 (cf xs)), .int .i64 (cf ys m)] (by simp only [List.map_cons, List.map_nil, e23, e24, e25, e29]) Try.call49 ((HC.out.2.1 w2).mono fun _ _ ⟨h1, h2⟩ => ⟨_, h1, rfl, h2⟩)
        · obtain rfl := Option.some.inj ho
          exact wpv_of (wp_loadB 25 _ rfl _ (hpar 7 (.pointer (some ⟨w.heap.size + 1 + 1, 0, none⟩)) (by kernel_rfl) (by kernel_rfl)) _ _ hSx.2.2.1 _ _ uPoly sPoly) (fun _ _ => rfl)
        · obtain rfl := Option.some.inj ho
          obtain ⟨_, e22⟩ : ∃ _w : World, a.eval (.tmp 22) = .int .i64 p := (hrd 0 _ 22 rfl rfl (by kernel_rfl) (by kernel_rfl) (by decide)).1
          obtain ⟨_, e30⟩ : ∃ _w : World, a.eval (.tmp 30) = .agg (u8s 64 (cf H2)) := (hrd 8 _ 30 rfl rfl (by kernel_rfl) (by kernel_rfl) (by decide)).1
          obtain ⟨_, e31⟩ : ∃ _w : World, a.eval (.tmp 31) = .agg (u8s 64 (cf ms)) := (hrd 9 _ 31 rfl rfl (by kernel_rfl) (by kernel_rfl) (by decide)).1
          exact wpv_call 34 [.tmp 22, .tmp 30, .tmp 31] _ rfl [.int .i64 p, .agg (u8s 64 (cf H2)), .agg (u8s 64 (cf ms))] (by simp only [List.map_cons, List.map_nil, e22, e30, e31]) Try.call34 ((HC.out.2.2 w2).mono fun _ _ ⟨h1, h2⟩ => ⟨_, h1, rfl, h2⟩)
        · exact absurd rfl (hz 0 (by decide))
        · simp at ho
      intro vals xE hBx hSx hS0 hcs hrs
      obtain ⟨_, e0⟩ : ∃ _w : World, vals 0 = .int .i64 p := hcs 0 (by simp) (by decide)
      obtain ⟨_, e1⟩ : ∃ _w : World, vals 1 = .int .i64 p := hcs 1 (by simp) (by decide)
      obtain ⟨_, e2⟩ : ∃ _w : World, vals 2 = .agg (u8s 64 (cf H1)) := hcs 2 (by simp) (by decide)
      obtain ⟨_, e3⟩ : ∃ _w : World, vals 3 = .agg (u8s 64 (cf xs)) := hcs 3 (by simp) (by decide)
      obtain ⟨_, e4⟩ : ∃ _w : World, vals 4 = .int .i64 m := hcs 4 (by simp) (by decide)
      obtain ⟨_, e5⟩ : ∃ _w : World, vals 5 = .pointer (some ⟨w.heap.size + 1, m, none⟩) := hcs 5 (by simp) (by decide)
      obtain ⟨_, e6⟩ : ∃ _w : World, vals 6 = .int .u8 (cf ys m) := hcs 6 (by simp) (by decide)
      obtain ⟨_, e7⟩ : ∃ _w : World, vals 7 = .int .i64 (cf ys m) := hcs 7 (by simp) (by decide)
      obtain ⟨_, e8⟩ : ∃ _w : World, vals 8 = .agg (u8s 64 (cf H2)) := hcs 8 (by simp) (by decide)
      obtain ⟨_, e9⟩ : ∃ _w : World, vals 9 = .agg (u8s 64 (cf ms)) := hcs 9 (by simp) (by decide)
      obtain ⟨_, e10⟩ : ∃ _w : World, vals 10 = .agg (u8s 64 (cf H3)) := hcs 10 (by simp) (by decide)
      have hsE0 : Blk xE (gN) (u8s 64 (cf H3)) 25 := hrs 0 (by decide)
      simp only [List.length_cons, List.length_nil, Nat.zero_add, Nat.reduceAdd, List.replicate, putAll, if_true, Act.put, List.setIfInBounds_toArray, List.set_cons_zero, List.set_cons_succ, e0, e1, e2, e3, e4, e5, e6, e7, e8, e9, e10]
      replace hA := hSx.1
      replace hD := hSx.2.1
      replace hM := hSx.2.2.1
      replace hE := hSx.2.2.2.1
      clear hcs hrs hS0 hSx e0 e1 e2 e3 e4 e5 e6 e7 e8 e9 e10
      rw [← HS.out] at hsE0
      go_wp2_with fail
      go_roundw
      case rel => exact ⟨m, by omega, by go_num, hA, hD, hM, hE, hsE0, hBx⟩
      case measure => simp [intOf] <;> omega

theorem rst_P64 {p : Int} {xs ms : List Int} (hx : P64 p xs) (hm : P64 p ms) (hne : ms ≠ []) : P64 p (rst p xs ms) := ⟨hx.pr, rst_Po hx.pr hx.po hm.po hne, by have := rst_lt hx.pr hx.po hm.po hne; have := hm.le; omega⟩
theorem mulmod_P64 {p : Int} (xs ys : List Int) {ms : List Int} (hm : P64 p ms) (hne : ms ≠ []) : P64 p (mulmod p xs ys ms) := ⟨hm.pr, mulmod_Po hm.pr hm.po hne, by have := mulmod_lt hm.pr (a := xs) (b := ys) hm.po hne; have := hm.le; omega⟩
theorem P64.one {p : Int} (hp : Pr p) : P64 p [1] := ⟨hp, one_Po hp.pos.1, by simp⟩
set_option maxRecDepth 20000 in
set_option maxHeartbeats 2000000 in
theorem l01PowMod_any (xs ms : List Int) (k : Nat) (p : Int) (w : World) (hx : P64 p xs) (hm : P64 p ms) (hne : ms ≠ []) (hk : k ≤ 1000000000000) :
    Calls Try.prog 22 #[.int .i64 p, .agg (u8s 64 (cf xs)), .int .i64 k, .agg (u8s 64 (cf ms))] w fun e w' => e = .returned (.agg (u8s 64 (cf (powp p xs k ms)))) ∧ Below w.heap.size w w' := by
  have hm1 := fun w => l01Mod_any [1] ms p w (P64.one hx.pr) hm hne
  have hm2 := fun w => l01Mod_any xs ms p w hx hm hne
  obtain ⟨R, hR⟩ : ∃ R, powp p xs k ms = R := ⟨_, rfl⟩
  rw [hR]
  unfold powp at hR
  have hP1 := rst_P64 (P64.one hx.pr) hm hne
  have hP2 := rst_P64 hx hm hne
  obtain ⟨o0, ho0⟩ : ∃ c, rst p [1] ms = c := ⟨_, rfl⟩
  obtain ⟨b0, hb0⟩ : ∃ c, rst p xs ms = c := ⟨_, rfl⟩
  rw [ho0] at hm1 hR hP1
  rw [hb0] at hm2 hR hP2
  have HC := Lib.hid (And.intro hm1 hm2)
  have HR := Lib.hid hR
  have HP := Lib.hid (And.intro hP1 hP2)
  have HM := Lib.hid hm
  have HN := Lib.hid hne
  have HK := Lib.hid hk
  clear hm1 hm2 hR hP1 hP2 ho0 hb0 hx hm hne hk
  obtain ⟨hb, hA, hM, hE⟩ := boxes3 w (u8s 64 (cf xs)) (u8s 64 (cf ms)) (u8s 64 fun _ => 0) 25 25 25
  go_enter Try.func22, Try.ntmps22
  go_upto_region 1 with (first | (refine wpl_alloc_arr rfl 25 rfl _ zPoly ?_))
  simp only [size_alloc]
  refine law_region3 (by kernel_rfl) (by kernel_rfl) (by kernel_rfl) (by kernel_rfl)
      (fun i => ([some (.int .i64 p), some (.agg (u8s 64 (cf [1]))), some (.agg (u8s 64 (cf ms))), some (.agg (u8s 64 (cf o0))), some (.int .i64 p), some (.agg (u8s 64 (cf xs))), some (.agg (u8s 64 (cf ms))), some (.agg (u8s 64 (cf b0))), none, none, none, none] : List (Option Value)).getD i none) 2 (fun k => [8, 9].getD k 0) (fun k => [10, 11].getD k 0) (fun k => [3, 7].getD k 0) (fun k => [9, 10].getD k 0) (fun k => [14, 18].getD k 0) (fun k => [64, 64].getD k 0) (fun k => [(cf o0), (cf b0)].getD k (fun _ => 0)) (fun k => [25, 25].getD k 0) ?_ ?_ ?_ ?_ ?_ ?_
  · intro i hi
    rcases i with _|_|_|_|_|_|_|_|_|_|_|_|i
    · exact .inl ⟨_, rfl⟩
    · exact .inl ⟨_, rfl⟩
    · exact .inl ⟨_, rfl⟩
    · exact .inl ⟨_, rfl⟩
    · exact .inl ⟨_, rfl⟩
    · exact .inl ⟨_, rfl⟩
    · exact .inl ⟨_, rfl⟩
    · exact .inl ⟨_, rfl⟩
    · exact .inr (.inl ⟨0, by decide, rfl⟩)
    · exact .inr (.inl ⟨1, by decide, rfl⟩)
    · exact .inr (.inr ⟨0, by decide, rfl⟩)
    · exact .inr (.inr ⟨1, by decide, rfl⟩)
    · simp only [List.length_cons, List.length_nil] at hi; omega
  · intro k hk
    rcases k with _|_|k
    · exact ⟨rfl, rfl, rfl, zPoly⟩
    · exact ⟨rfl, rfl, rfl, zPoly⟩
    · omega
  · intro k hk k' hk'
    rcases k with _|_|k
    all_goals rcases k' with _|_|k'
    all_goals first | omega | exact ⟨by decide, by decide, by decide⟩
  · intro k hk
    rcases k with _|_|k
    · kernel_rfl
    · kernel_rfl
    · omega
  · intro i o c ho hc a z2 hB hrd hpar
    rcases i with _|_|_|_|_|_|_|_|_|_|_|_|i
    · obtain rfl := Option.some.inj ho
      obtain rfl := Option.some.inj hc
      exact wp_move _ (.int .i64 p) rfl (hpar 0 _ (by kernel_rfl) (by kernel_rfl))
    · obtain rfl := Option.some.inj ho
      obtain rfl := Option.some.inj hc
      exact wp_callB 20 [] _ rfl [] (by simp only [List.map_cons, List.map_nil, ]) Try.call20 _ (l01One_any z2)
    · obtain rfl := Option.some.inj ho
      obtain rfl := Option.some.inj hc
      exact wp_loadB 25 _ rfl _ (hpar 7 (.pointer (some ⟨w.heap.size + 1, 0, none⟩)) (by kernel_rfl) (by kernel_rfl)) _ _ (hM.keep hB) _ _ uPoly sPoly
    · obtain rfl := Option.some.inj ho
      obtain rfl := Option.some.inj hc
      exact wp_callB 34 [.tmp 11, .tmp 12, .tmp 13] _ rfl [.int .i64 p, .agg (u8s 64 (cf [1])), .agg (u8s 64 (cf ms))] (by simp only [List.map_cons, List.map_nil, (hrd 0 _ _ 11 rfl rfl rfl (by kernel_rfl) (by kernel_rfl)), (hrd 1 _ _ 12 rfl rfl rfl (by kernel_rfl) (by kernel_rfl)), (hrd 2 _ _ 13 rfl rfl rfl (by kernel_rfl) (by kernel_rfl))]) Try.call34 _ (HC.out.1 z2)
    · obtain rfl := Option.some.inj ho
      obtain rfl := Option.some.inj hc
      exact wp_move _ (.int .i64 p) rfl (hpar 0 _ (by kernel_rfl) (by kernel_rfl))
    · obtain rfl := Option.some.inj ho
      obtain rfl := Option.some.inj hc
      exact wp_loadB 25 _ rfl _ (hpar 5 (.pointer (some ⟨w.heap.size, 0, none⟩)) (by kernel_rfl) (by kernel_rfl)) _ _ (hA.keep hB) _ _ uPoly sPoly
    · obtain rfl := Option.some.inj ho
      obtain rfl := Option.some.inj hc
      exact wp_loadB 25 _ rfl _ (hpar 7 (.pointer (some ⟨w.heap.size + 1, 0, none⟩)) (by kernel_rfl) (by kernel_rfl)) _ _ (hM.keep hB) _ _ uPoly sPoly
    · obtain rfl := Option.some.inj ho
      obtain rfl := Option.some.inj hc
      exact wp_callB 34 [.tmp 15, .tmp 16, .tmp 17] _ rfl [.int .i64 p, .agg (u8s 64 (cf xs)), .agg (u8s 64 (cf ms))] (by simp only [List.map_cons, List.map_nil, (hrd 4 _ _ 15 rfl rfl rfl (by kernel_rfl) (by kernel_rfl)), (hrd 5 _ _ 16 rfl rfl rfl (by kernel_rfl) (by kernel_rfl)), (hrd 6 _ _ 17 rfl rfl rfl (by kernel_rfl) (by kernel_rfl))]) Try.call34 _ (HC.out.2 z2)
    · cases hc
    · cases hc
    · cases hc
    · cases hc
    · cases hc
  intro vals xT hB hc hr hne
  have e0 : vals 0 = .int .i64 p := hc 0 _ (by simp) rfl
  have e1 : vals 1 = .agg (u8s 64 (cf [1])) := hc 1 _ (by simp) rfl
  have e2 : vals 2 = .agg (u8s 64 (cf ms)) := hc 2 _ (by simp) rfl
  have e3 : vals 3 = .agg (u8s 64 (cf o0)) := hc 3 _ (by simp) rfl
  have e4 : vals 4 = .int .i64 p := hc 4 _ (by simp) rfl
  have e5 : vals 5 = .agg (u8s 64 (cf xs)) := hc 5 _ (by simp) rfl
  have e6 : vals 6 = .agg (u8s 64 (cf ms)) := hc 6 _ (by simp) rfl
  have e7 : vals 7 = .agg (u8s 64 (cf b0)) := hc 7 _ (by simp) rfl
  obtain ⟨gT0, p0, hgT0, hT0⟩ : ∃ g, vals 8 = .pointer (some ⟨g, 0, none⟩) ∧ _ ≤ g ∧ Blk xT g (u8s 64 (cf o0)) 25 := hr 0 (by decide)
  obtain ⟨gT1, p1, hgT1, hT1⟩ : ∃ g, vals 9 = .pointer (some ⟨g, 0, none⟩) ∧ _ ≤ g ∧ Blk xT g (u8s 64 (cf b0)) 25 := hr 1 (by decide)
  simp only [List.length_cons, List.length_nil, Nat.zero_add, Nat.reduceAdd, List.replicate, putAll, if_true, Act.put, List.setIfInBounds_toArray, List.set_cons_zero, List.set_cons_succ, e0, e1, e2, e3, e4, e5, e6, e7, p0, p1]
  replace hA := hA.keep hB
  replace hM := hM.keep hB
  replace hE := hE.keep hB
  replace hb := below_step hb hB
  have hdT01 : gT0 ≠ gT1 := fun h => hne 0 1 (by decide) (by decide) (by decide) (by show vals 8 = vals 9; rw [p0, p1, h])
  clear hne
  clear hc hr e0 e1 e2 e3 e4 e5 e6 e7 p0 p1
  clear hB
  have hel := hE.lt
  have hgT0' : w.heap.size + 1 + 1 < gT0 := by simp at hgT0; omega
  have hgT1' : w.heap.size + 1 + 1 < gT1 := by simp at hgT1; omega
  clear hgT0 hgT1 hel hA
  go_wp2_with fail
  go_loopw [2] (fun kk wr => ∃ (j : Nat) (o b : List Int), j ≤ k ∧ kk = .int .i64 j ∧ Hid (P64 p o ∧ P64 p b ∧ pwl p ms j o b = R) ∧ Blk wr (w.heap.size + 1) (u8s 64 (cf ms)) 25 ∧ Blk wr (w.heap.size + 1 + 1) (u8s 64 fun _ => 0) 25 ∧ Blk wr gT0 (u8s 64 (cf o)) 25 ∧ Blk wr gT1 (u8s 64 (cf b)) 25 ∧ Below w.heap.size w wr) (fun kk _ => (intOf kk).toNat)
  case atStart => exact ⟨k, o0, b0, Nat.le_refl _, rfl, ⟨HP.out.1, HP.out.2, HR.out⟩, hM, hE, hT0, hT1, hb⟩
  case round =>
    clear hM hE hT0 hT1 hb
    obtain ⟨j, o, b, hj, rfl, hS, hM, hE, hT0, hT1, hb⟩ := hrel
    by_cases h0 : j = 0
    · subst h0
      have hoR : o = R := (pwl_zero _ _ _ _).symm.trans hS.out.2.2
      rw [hoR] at hT0
      clear hoR
      go_upto_region 7 with (fail)
      refine wp_copy (s := 36) 25 rfl rfl (.tmp 9) (.tmp 8) rfl rfl rfl rfl hT0 hE (by kernel_rfl) (by kernel_rfl) (by kernel_rfl) uPoly sPoly ?_
      intro w5 hz5 _ hB5
      simp only [Act.put, List.setIfInBounds_toArray, List.set_cons_zero, List.set_cons_succ]
      go_wp2_with fail
      exact bodyPost_ret (res_c rfl rfl hz5 uPoly sPoly) rfl ⟨rfl, hB5 _ _ hb (by omega)⟩
    · have hj1 : 0 < (j : Int) := by omega
      have hjk : (j : Int) ≤ 1000000000000 := by have := HK.out; omega
      have hstep := hS.out.2.2
      rw [pwl_step _ _ _ _ h0] at hstep
      have hlt := Lib.hid (show j / 2 < j ∧ j / 2 ≤ k by omega)
      have hmm1 := fun w => l01MulMod_any o b ms p w hS.out.1 hS.out.2.1 HM.out HN.out
      have hmm2 := fun w => l01MulMod_any b b ms p w hS.out.2.1 hS.out.2.1 HM.out HN.out
      have hP1 := mulmod_P64 o b HM.out HN.out
      have hP2 := mulmod_P64 b b HM.out HN.out
      obtain ⟨ob, hob⟩ : ∃ c, mulmod p o b ms = c := ⟨_, rfl⟩
      obtain ⟨bb, hbb⟩ : ∃ c, mulmod p b b ms = c := ⟨_, rfl⟩
      rw [hob, hbb] at hstep
      rw [hob] at hmm1 hP1
      rw [hbb] at hmm2 hP2
      have HH := Lib.hid (And.intro hmm1 hmm2)
      have HPP := Lib.hid (And.intro hP1 hP2)
      clear hmm1 hmm2 hP1 hP2 hob hbb h0
      by_cases h2 : j % 2 = 1
      · rw [if_pos h2] at hstep
        have hb1 : ((j : Int) % 2 == 1) = true := by rw [beq_iff_eq]; omega
        have HS := Lib.hid hstep
        clear hstep h2
        go_upto_region 5 with (fail)
        go_wp2_with ((with_reducible refine wpl_guard ?_); first | (refine wpl_load_arr rfl 25 _ rfl _ rfl _ _ hT0 _ _ uPoly sPoly ?_) | (refine wpl_load_arr rfl 25 _ rfl _ rfl _ _ hT1 _ _ uPoly sPoly ?_) | (refine wpl_load_arr rfl 25 _ rfl _ rfl _ _ hM _ _ uPoly sPoly ?_))
        refine (HH.out.1 _).mono ?_
        rintro e w3 ⟨rfl, hn⟩
        replace hM := hM.keep hn
        replace hE := hE.keep hn
        replace hT0 := hT0.keep hn
        replace hT1 := hT1.keep hn
        replace hb := below_step hb hn
        clear hn
        go_upto_region 6 with ((with_reducible refine wpl_guard ?_); first | (refine wpl_sto1 25 sPoly (.tmp 9) _ rfl rfl rfl _ rfl _ rfl _ hT0 ?_; intro _ khT0 hk hbb; replace hM := hk _ _ _ (by omega) hM; replace hE := hk _ _ _ (by omega) hE; replace hT1 := hk _ _ _ (by omega) hT1; replace hb := hbb _ _ hb (by omega); clear hk hbb hT0; have hT0 := khT0; clear khT0))
        go_wp2_with ((with_reducible refine wpl_guard ?_); first | (refine wpl_load_arr rfl 25 _ rfl _ rfl _ _ hT1 _ _ uPoly sPoly ?_) | (refine wpl_load_arr rfl 25 _ rfl _ rfl _ _ hM _ _ uPoly sPoly ?_))
        refine (HH.out.2 _).mono ?_
        rintro e w4 ⟨rfl, hn⟩
        replace hM := hM.keep hn
        replace hE := hE.keep hn
        replace hT0 := hT0.keep hn
        replace hT1 := hT1.keep hn
        replace hb := below_step hb hn
        clear hn
        go_upto_region 3 with ((with_reducible refine wpl_guard ?_); first | (refine wpl_sto1 25 sPoly (.tmp 10) _ rfl rfl rfl _ rfl _ rfl _ hT1 ?_; intro _ khT1 hk hbb; replace hM := hk _ _ _ (by omega) hM; replace hE := hk _ _ _ (by omega) hE; replace hT0 := hk _ _ _ (by omega) hT0; replace hb := hbb _ _ hb (by omega); clear hk hbb hT1; have hT1 := khT1; clear khT1))
        go_wp2_with fail
        go_roundw
        case rel => exact ⟨j / 2, ob, bb, hlt.out.2, by first | go_num | (congr 1; omega) | (congr 1; exact (Int.natCast_ediv j 2).symm), ⟨HPP.out.1, HPP.out.2, HS.out⟩, hM, hE, hT0, hT1, hb⟩
        case measure => have h9 := hlt.out; simp only [intOf]; omega
      · rw [if_neg h2] at hstep
        have hb1 : ((j : Int) % 2 == 1) = false := by rw [beq_eq_false_iff_ne]; omega
        have HS := Lib.hid hstep
        clear hstep h2
        go_upto_region 6 with (fail)
        go_wp2_with ((with_reducible refine wpl_guard ?_); first | (refine wpl_load_arr rfl 25 _ rfl _ rfl _ _ hT1 _ _ uPoly sPoly ?_) | (refine wpl_load_arr rfl 25 _ rfl _ rfl _ _ hM _ _ uPoly sPoly ?_))
        refine (HH.out.2 _).mono ?_
        rintro e w4 ⟨rfl, hn⟩
        replace hM := hM.keep hn
        replace hE := hE.keep hn
        replace hT0 := hT0.keep hn
        replace hT1 := hT1.keep hn
        replace hb := below_step hb hn
        clear hn
        go_upto_region 3 with ((with_reducible refine wpl_guard ?_); first | (refine wpl_sto1 25 sPoly (.tmp 10) _ rfl rfl rfl _ rfl _ rfl _ hT1 ?_; intro _ khT1 hk hbb; replace hM := hk _ _ _ (by omega) hM; replace hE := hk _ _ _ (by omega) hE; replace hT0 := hk _ _ _ (by omega) hT0; replace hb := hbb _ _ hb (by omega); clear hk hbb hT1; have hT1 := khT1; clear khT1))
        go_wp2_with fail
        go_roundw
        case rel => exact ⟨j / 2, o, bb, hlt.out.2, by first | go_num | (congr 1; omega) | (congr 1; exact (Int.natCast_ediv j 2).symm), ⟨hS.out.1, HPP.out.2, HS.out⟩, hM, hE, hT0, hT1, hb⟩
        case measure => have h9 := hlt.out; simp only [intOf]; omega
end Go.Proofs.Ytojkngdabejjdaa

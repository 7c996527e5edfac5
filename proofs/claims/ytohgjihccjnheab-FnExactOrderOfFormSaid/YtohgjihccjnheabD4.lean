/- Walks: forms: the law's own functions, and the checks. -/
import Derived.Test.YtohgjihccjnheabD3
set_option linter.unusedVariables false
set_option linter.unusedSimpArgs false
namespace Go.Proofs.Ytohgjihccjnheab
open Go.RowKit

theorem tLForm : strB Try.prog 24 = true := by kernel_rfl
theorem sLForm : (Try.prog.info? 24).map (·.size) = some 128 := by kernel_rfl

set_option maxRecDepth 20000 in
set_option maxHeartbeats 2000000 in
theorem toForm_any (f g : Nat → Int) (w : World)  :
    Calls Try.prog 7 #[.agg (u8s 128 (fmF f g))] w fun e w' => e = .returned (.agg (u8s 128 (fmF f g))) ∧ Below w.heap.size w w' := by
  have hA0 := boxes3 w (u8s 128 (fmF f g)) (u8s 128 fun _ => 0) (u8s 128 fun _ => 0) 24 30 30
  obtain ⟨hb, hA, hZ, hN⟩ := hA0
  replace hN := hN.cast fmF_zero
  go_enter Try.func7, Try.ntmps7
  go_upto_region 2 with ((with_reducible refine wpl_guard ?_); first | (refine wpl_alloc_arr rfl 30 rfl _ zForm ?_))
  simp only [size_alloc]
  go_wp2_with ((with_reducible refine wpl_guard ?_); first | (refine wpl_load_A rfl 22 _ rfl _ rfl 5 _ _ _ hA uArr64 sArr64 ?_))
  refine (toPoly_any f _).mono ?_
  rintro e u1 ⟨rfl, hn⟩
  replace hA := hA.keep hn
  replace hZ := hZ.keep hn
  replace hN := hN.keep hn
  replace hb := below_step hb hn
  clear hn
  go_upto_region 3 with ((with_reducible refine wpl_guard ?_); first | (refine wpl_store_part rfl 27 _ _ rfl _ 0 rfl 64 128 _ _ rfl _ hN sPoly (by omega) ?_))
  rw [fmF_setA]
  replace hA := hA.setRow_other (cs := u8s 128 (fmF f fun _ => 0)) (show w.heap.size ≠ w.heap.size + 1 + 1 by omega)
  replace hZ := hZ.setRow_other (cs := u8s 128 (fmF f fun _ => 0)) (show w.heap.size + 1 ≠ w.heap.size + 1 + 1 by omega)
  replace hb := below_setRow hb (show w.heap.size ≤ w.heap.size + 1 + 1 by omega) (u8s 128 (fmF f fun _ => 0))
  replace hN := hN.setRow_same (cs := u8s 128 (fmF f fun _ => 0))
  generalize u1.setRow (w.heap.size + 1 + 1) (u8s 128 (fmF f fun _ => 0)) = u2 at *
  go_wp2_with ((with_reducible refine wpl_guard ?_); first | (refine wpl_load_B rfl 22 _ rfl _ rfl 5 _ _ _ hA uArr64 sArr64 ?_))
  refine (toPoly_any g _).mono ?_
  rintro e u3 ⟨rfl, hn⟩
  replace hZ := hZ.keep hn
  replace hN := hN.keep hn
  replace hb := below_step hb hn
  clear hn hA
  go_upto_region 4 with ((with_reducible refine wpl_guard ?_); first | (refine wpl_store_part rfl 27 _ _ rfl _ 64 rfl 64 128 _ _ rfl _ hN sPoly (by omega) ?_))
  rw [fmF_setB]
  replace hZ := hZ.setRow_other (cs := u8s 128 (fmF f g)) (show w.heap.size + 1 ≠ w.heap.size + 1 + 1 by omega)
  replace hb := below_setRow hb (show w.heap.size ≤ w.heap.size + 1 + 1 by omega) (u8s 128 (fmF f g))
  replace hN := hN.setRow_same (cs := u8s 128 (fmF f g))
  generalize u3.setRow (w.heap.size + 1 + 1) (u8s 128 (fmF f g)) = u4 at *
  go_wp2_with ((with_reducible refine wpl_guard ?_); first | (refine wpl_load_str rfl 30 _ rfl _ rfl _ _ hN tForm sForm ?_) | (refine wpl_store_arr rfl 30 _ _ rfl _ rfl _ rfl _ _ hZ sForm (by simp only [u8s_size]) (u8s_oneCell _ _) ?_))
  exact bodyPost_ret (res_s rfl rfl (hZ.setRow_same (cs := u8s 128 (fmF f g))) tForm sForm) rfl ⟨rfl, below_setRow hb (by omega) _⟩

theorem toForm_all (F : Nat → Int) (w : World) : Calls Try.prog 7 #[.agg (u8s 128 F)] w fun e w' => e = .returned (.agg (u8s 128 F)) ∧ Below w.heap.size w w' := by
  rw [fmF_self F]; exact toForm_any _ _ w

set_option maxRecDepth 20000 in
set_option maxHeartbeats 2000000 in
theorem implIsForm_any (d f g : Nat → Int) (p : Int) (b1 b2 : Bool) (w : World) (hd : By d) (hf : By f) (hg : By g) (hdi : Disc p d ↔ b1 = true) (hfo : P64 p (mkp 64 d) → (FormOk p (mkp 64 d) f g ↔ b2 = true)) :
    Calls Try.prog 34 #[.int .i64 p, .agg (u8s 64 d), .agg (u8s 128 (fmF f g))] w fun e w' => e = .returned (.bool (b1 && b2)) ∧ Below w.heap.size w w' := by
  have hdH := Lib.hid hd
  have hfH := Lib.hid hf
  have hgH := Lib.hid hg
  have hdiH := Lib.hid hdi
  have hfoH := Lib.hid hfo
  obtain ⟨t2, h2⟩ : ∃ t, decide (∀ i : Nat, i < 64 → f i < p) = t := ⟨_, rfl⟩
  obtain ⟨t3, h3⟩ : ∃ t, decide (∀ i : Nat, i < 64 → g i < p) = t := ⟨_, rfl⟩
  have r1 := Lib.hid (fun w => implDisc_any d p b1 w hd hdi)
  have r2 := Lib.hid (fun w => isPoly_any f p w hf.on t2 h2)
  have r3 := Lib.hid (fun w => isPoly_any g p w hg.on t3 h3)
  have h2H := Lib.hid h2
  have h3H := Lib.hid h3
  clear hd hf hg hdi hfo h2 h3
  obtain ⟨hb, hA, hB⟩ := boxes2 w (u8s 64 d) (u8s 128 (fmF f g)) 27 30
  go_enter Try.func34, Try.ntmps34
  cases b1
  ·
    go_upto_region 1 with (fail)
    refine gen_guard (w := _) (by kernel_rfl) (by kernel_rfl) (by kernel_rfl)
        (fun i => ([fun zv _ => zv = .int .i64 p, fun zv _ => zv = .agg (u8s 64 d), fun zv _ => zv = .bool false, fun zv _ => zv = .bool false, fun zv _ => zv = undef, fun zv _ => zv = undef, fun zv _ => zv = undef, fun zv _ => zv = undef, fun zv _ => zv = .bool false, fun zv _ => zv = .bool false, fun zv _ => zv = undef, fun zv _ => zv = undef, fun zv _ => zv = undef, fun zv _ => zv = undef, fun zv _ => zv = .bool false, fun zv _ => zv = .bool false, fun zv _ => zv = undef, fun zv _ => zv = undef, fun zv _ => zv = undef, fun zv _ => zv = undef, fun zv _ => zv = undef, fun zv _ => zv = undef, fun zv _ => zv = .bool false, fun zv _ => zv = .bool false] : List (Value → World → Prop)).getD i (fun _ _ => True))
        (fun w' => Blk w' (w.heap.size) (u8s 64 d) 27 ∧ Blk w' (w.heap.size + 1) (u8s 128 (fmF f g)) 30 ∧ True) ⟨hA.drew, hB.drew, trivial⟩ (fun w1 w2 h hb => ⟨h.1.keep hb, h.2.1.keep hb, trivial⟩) ?_ ?_ ?_
    · intro i v w1 w2 h hb
      rcases i with _|_|_|_|_|_|_|_|_|_|_|_|_|_|_|_|_|_|_|_|_|_|_|_|i
      · exact h
      · exact h
      · exact h
      · exact h
      · exact h
      · exact h
      · exact h
      · exact h
      · exact h
      · exact h
      · exact h
      · exact h
      · exact h
      · exact h
      · exact h
      · exact h
      · exact h
      · exact h
      · exact h
      · exact h
      · exact h
      · exact h
      · exact h
      · exact h
      · exact h
    · intro i o ho a w2 hBl hSx hrd hpar
      rcases i with _|_|_|_|_|_|_|_|_|_|_|_|_|_|_|_|_|_|_|_|_|_|_|_|i
      · obtain rfl := Option.some.inj ho
        refine .inl ⟨rfl, ?_⟩
        have e0 : a.eval (.tmp 0) = .int .i64 p := hpar 0 _ (by kernel_rfl) (by kernel_rfl)
        exact wpv_of (wp_move _ _ rfl e0) (fun _ _ => rfl)
      · obtain rfl := Option.some.inj ho
        refine .inl ⟨rfl, ?_⟩
        exact wpv_of (wp_loadB 27 _ rfl _ (hpar 4 (.pointer (some ⟨w.heap.size, 0, none⟩)) (by kernel_rfl) (by kernel_rfl)) _ _ hSx.1 _ _ uPoly sPoly) (fun _ _ => rfl)
      · obtain rfl := Option.some.inj ho
        refine .inl ⟨rfl, ?_⟩
        have e7 : a.eval (.tmp 7) = .int .i64 p := hrd 0 _ 7 rfl rfl (by kernel_rfl) (by kernel_rfl)
        have e8 : a.eval (.tmp 8) = .agg (u8s 64 d) := hrd 1 _ 8 rfl rfl (by kernel_rfl) (by kernel_rfl)
        exact wpv_call 31 [.tmp 7, .tmp 8] _ rfl [.int .i64 p, .agg (u8s 64 d)] (by simp only [List.map_cons, List.map_nil, e7, e8]) Try.call31 ((r1.out w2).mono fun _ _ ⟨h1, h2⟩ => ⟨_, h1, rfl, h2⟩)
      · obtain rfl := Option.some.inj ho
        refine .inl ⟨rfl, ?_⟩
        have e9 : a.eval (.tmp 9) = .bool false := hrd 2 _ 9 rfl rfl (by kernel_rfl) (by kernel_rfl)
        exact wpv_of (wp_move _ _ rfl e9) (fun _ _ => rfl)
      · obtain rfl := Option.some.inj ho
        exact .inr (.inr ⟨3, true, _, 10, rfl, rfl, rfl, (by kernel_rfl), (by kernel_rfl), fun v w' h => .inl h, fun _ => rfl⟩)
      · obtain rfl := Option.some.inj ho
        exact .inr (.inr ⟨3, true, _, 10, rfl, rfl, rfl, (by kernel_rfl), (by kernel_rfl), fun v w' h => .inl h, fun _ => rfl⟩)
      · obtain rfl := Option.some.inj ho
        exact .inr (.inr ⟨3, true, _, 10, rfl, rfl, rfl, (by kernel_rfl), (by kernel_rfl), fun v w' h => .inl h, fun _ => rfl⟩)
      · obtain rfl := Option.some.inj ho
        exact .inr (.inr ⟨3, true, _, 10, rfl, rfl, rfl, (by kernel_rfl), (by kernel_rfl), fun v w' h => .inl h, fun _ => rfl⟩)
      · obtain rfl := Option.some.inj ho
        refine .inl ⟨rfl, ?_⟩
        have e10 : a.eval (.tmp 10) = .bool false := hrd 3 _ 10 rfl rfl (by kernel_rfl) (by kernel_rfl)
        exact wpv_of (wp_pickF _ _ _ rfl e10 (.bool false) rfl) (fun _ _ => rfl)
      · obtain rfl := Option.some.inj ho
        refine .inl ⟨rfl, ?_⟩
        have e15 : a.eval (.tmp 15) = .bool false := hrd 8 _ 15 rfl rfl (by kernel_rfl) (by kernel_rfl)
        exact wpv_of (wp_move _ _ rfl e15) (fun _ _ => rfl)
      · obtain rfl := Option.some.inj ho
        exact .inr (.inr ⟨9, true, _, 16, rfl, rfl, rfl, (by kernel_rfl), (by kernel_rfl), fun v w' h => .inl h, fun _ => rfl⟩)
      · obtain rfl := Option.some.inj ho
        exact .inr (.inr ⟨9, true, _, 16, rfl, rfl, rfl, (by kernel_rfl), (by kernel_rfl), fun v w' h => .inl h, fun _ => rfl⟩)
      · obtain rfl := Option.some.inj ho
        exact .inr (.inr ⟨9, true, _, 16, rfl, rfl, rfl, (by kernel_rfl), (by kernel_rfl), fun v w' h => .inl h, fun _ => rfl⟩)
      · obtain rfl := Option.some.inj ho
        exact .inr (.inr ⟨9, true, _, 16, rfl, rfl, rfl, (by kernel_rfl), (by kernel_rfl), fun v w' h => .inl h, fun _ => rfl⟩)
      · obtain rfl := Option.some.inj ho
        refine .inl ⟨rfl, ?_⟩
        have e16 : a.eval (.tmp 16) = .bool false := hrd 9 _ 16 rfl rfl (by kernel_rfl) (by kernel_rfl)
        exact wpv_of (wp_pickF _ _ _ rfl e16 (.bool false) rfl) (fun _ _ => rfl)
      · obtain rfl := Option.some.inj ho
        refine .inl ⟨rfl, ?_⟩
        have e21 : a.eval (.tmp 21) = .bool false := hrd 14 _ 21 rfl rfl (by kernel_rfl) (by kernel_rfl)
        exact wpv_of (wp_move _ _ rfl e21) (fun _ _ => rfl)
      · obtain rfl := Option.some.inj ho
        exact .inr (.inr ⟨15, true, _, 22, rfl, rfl, rfl, (by kernel_rfl), (by kernel_rfl), fun v w' h => .inl h, fun _ => rfl⟩)
      · obtain rfl := Option.some.inj ho
        exact .inr (.inr ⟨15, true, _, 22, rfl, rfl, rfl, (by kernel_rfl), (by kernel_rfl), fun v w' h => .inl h, fun _ => rfl⟩)
      · obtain rfl := Option.some.inj ho
        exact .inr (.inr ⟨15, true, _, 22, rfl, rfl, rfl, (by kernel_rfl), (by kernel_rfl), fun v w' h => .inl h, fun _ => rfl⟩)
      · obtain rfl := Option.some.inj ho
        exact .inr (.inr ⟨15, true, _, 22, rfl, rfl, rfl, (by kernel_rfl), (by kernel_rfl), fun v w' h => .inl h, fun _ => rfl⟩)
      · obtain rfl := Option.some.inj ho
        exact .inr (.inr ⟨15, true, _, 22, rfl, rfl, rfl, (by kernel_rfl), (by kernel_rfl), fun v w' h => .inl h, fun _ => rfl⟩)
      · obtain rfl := Option.some.inj ho
        exact .inr (.inr ⟨15, true, _, 22, rfl, rfl, rfl, (by kernel_rfl), (by kernel_rfl), fun v w' h => .inl h, fun _ => rfl⟩)
      · obtain rfl := Option.some.inj ho
        refine .inl ⟨rfl, ?_⟩
        have e22 : a.eval (.tmp 22) = .bool false := hrd 15 _ 22 rfl rfl (by kernel_rfl) (by kernel_rfl)
        exact wpv_of (wp_pickF _ _ _ rfl e22 (.bool false) rfl) (fun _ _ => rfl)
      · obtain rfl := Option.some.inj ho
        refine .inl ⟨rfl, ?_⟩
        have e29 : a.eval (.tmp 29) = .bool false := hrd 22 _ 29 rfl rfl (by kernel_rfl) (by kernel_rfl)
        exact wpv_of (wp_assign _ _ rfl e29) (fun _ _ => rfl)
      · simp at ho
    intro vals xE hBx hSx hc0
    have e0 : vals 0 = .int .i64 p := hc0 0 (by simp)
    have e1 : vals 1 = .agg (u8s 64 d) := hc0 1 (by simp)
    have e2 : vals 2 = .bool false := hc0 2 (by simp)
    have e3 : vals 3 = .bool false := hc0 3 (by simp)
    have e4 : vals 4 = undef := hc0 4 (by simp)
    have e5 : vals 5 = undef := hc0 5 (by simp)
    have e6 : vals 6 = undef := hc0 6 (by simp)
    have e7 : vals 7 = undef := hc0 7 (by simp)
    have e8 : vals 8 = .bool false := hc0 8 (by simp)
    have e9 : vals 9 = .bool false := hc0 9 (by simp)
    have e10 : vals 10 = undef := hc0 10 (by simp)
    have e11 : vals 11 = undef := hc0 11 (by simp)
    have e12 : vals 12 = undef := hc0 12 (by simp)
    have e13 : vals 13 = undef := hc0 13 (by simp)
    have e14 : vals 14 = .bool false := hc0 14 (by simp)
    have e15 : vals 15 = .bool false := hc0 15 (by simp)
    have e16 : vals 16 = undef := hc0 16 (by simp)
    have e17 : vals 17 = undef := hc0 17 (by simp)
    have e18 : vals 18 = undef := hc0 18 (by simp)
    have e19 : vals 19 = undef := hc0 19 (by simp)
    have e20 : vals 20 = undef := hc0 20 (by simp)
    have e21 : vals 21 = undef := hc0 21 (by simp)
    have e22 : vals 22 = .bool false := hc0 22 (by simp)
    have e23 : vals 23 = .bool false := hc0 23 (by simp)
    simp only [List.length_cons, List.length_nil, Nat.zero_add, Nat.reduceAdd, List.replicate, putAll, if_true, Act.put, List.setIfInBounds_toArray, List.set_cons_zero, List.set_cons_succ, e0, e1, e2, e3, e4, e5, e6, e7, e8, e9, e10, e11, e12, e13, e14, e15, e16, e17, e18, e19, e20, e21, e22, e23]
    replace hA := hSx.1
    replace hB := hSx.2.1
    replace hb := below_step hb hBx
    clear hc0 hSx e0 e1 e2 e3 e4 e5 e6 e7 e8 e9 e10 e11 e12 e13 e14 e15 e16 e17 e18 e19 e20 e21 e22 e23
    go_wp2_with fail
    go_ret
    exact ⟨rfl, hb⟩
  have hDP := (hdiH.out.2 (by first | rfl | trivial)).1.1
  have hdP : P64 p (mkp 64 d) := OkP.p64 hDP hdH.out
  have hfo2 := Lib.hid (hfoH.out hdP)
  cases t2
  ·
    have hb2 : b2 = false := bad_of hfo2.out (fun h => of_decide_eq_false h2H.out h.1.1)
    subst hb2
    clear hDP hdP
    go_upto_region 1 with (fail)
    refine gen_guard (w := _) (by kernel_rfl) (by kernel_rfl) (by kernel_rfl)
        (fun i => ([fun zv _ => zv = .int .i64 p, fun zv _ => zv = .agg (u8s 64 d), fun zv _ => zv = .bool true, fun zv _ => zv = .bool true, fun zv _ => zv = .int .i64 p, fun zv _ => zv = .pointer (some ⟨w.heap.size + 1, 0 + 0, none⟩), fun zv _ => zv = .agg (u8s 64 (f)), fun zv _ => zv = .bool false, fun zv _ => zv = .bool false, fun zv _ => zv = .bool false, fun zv _ => zv = undef, fun zv _ => zv = undef, fun zv _ => zv = undef, fun zv _ => zv = undef, fun zv _ => zv = .bool false, fun zv _ => zv = .bool false, fun zv _ => zv = undef, fun zv _ => zv = undef, fun zv _ => zv = undef, fun zv _ => zv = undef, fun zv _ => zv = undef, fun zv _ => zv = undef, fun zv _ => zv = .bool false, fun zv _ => zv = .bool false] : List (Value → World → Prop)).getD i (fun _ _ => True))
        (fun w' => Blk w' (w.heap.size) (u8s 64 d) 27 ∧ Blk w' (w.heap.size + 1) (u8s 128 (fmF f g)) 30 ∧ True) ⟨hA.drew, hB.drew, trivial⟩ (fun w1 w2 h hb => ⟨h.1.keep hb, h.2.1.keep hb, trivial⟩) ?_ ?_ ?_
    · intro i v w1 w2 h hb
      rcases i with _|_|_|_|_|_|_|_|_|_|_|_|_|_|_|_|_|_|_|_|_|_|_|_|i
      · exact h
      · exact h
      · exact h
      · exact h
      · exact h
      · exact h
      · exact h
      · exact h
      · exact h
      · exact h
      · exact h
      · exact h
      · exact h
      · exact h
      · exact h
      · exact h
      · exact h
      · exact h
      · exact h
      · exact h
      · exact h
      · exact h
      · exact h
      · exact h
      · exact h
    · intro i o ho a w2 hBl hSx hrd hpar
      rcases i with _|_|_|_|_|_|_|_|_|_|_|_|_|_|_|_|_|_|_|_|_|_|_|_|i
      · obtain rfl := Option.some.inj ho
        refine .inl ⟨rfl, ?_⟩
        have e0 : a.eval (.tmp 0) = .int .i64 p := hpar 0 _ (by kernel_rfl) (by kernel_rfl)
        exact wpv_of (wp_move _ _ rfl e0) (fun _ _ => rfl)
      · obtain rfl := Option.some.inj ho
        refine .inl ⟨rfl, ?_⟩
        exact wpv_of (wp_loadB 27 _ rfl _ (hpar 4 (.pointer (some ⟨w.heap.size, 0, none⟩)) (by kernel_rfl) (by kernel_rfl)) _ _ hSx.1 _ _ uPoly sPoly) (fun _ _ => rfl)
      · obtain rfl := Option.some.inj ho
        refine .inl ⟨rfl, ?_⟩
        have e7 : a.eval (.tmp 7) = .int .i64 p := hrd 0 _ 7 rfl rfl (by kernel_rfl) (by kernel_rfl)
        have e8 : a.eval (.tmp 8) = .agg (u8s 64 d) := hrd 1 _ 8 rfl rfl (by kernel_rfl) (by kernel_rfl)
        exact wpv_call 31 [.tmp 7, .tmp 8] _ rfl [.int .i64 p, .agg (u8s 64 d)] (by simp only [List.map_cons, List.map_nil, e7, e8]) Try.call31 ((r1.out w2).mono fun _ _ ⟨h1, h2⟩ => ⟨_, h1, rfl, h2⟩)
      · obtain rfl := Option.some.inj ho
        refine .inl ⟨rfl, ?_⟩
        have e9 : a.eval (.tmp 9) = .bool true := hrd 2 _ 9 rfl rfl (by kernel_rfl) (by kernel_rfl)
        exact wpv_of (wp_move _ _ rfl e9) (fun _ _ => rfl)
      · obtain rfl := Option.some.inj ho
        refine .inr (.inl ⟨3, true, _, 10, rfl, rfl, rfl, (by kernel_rfl), (by kernel_rfl), fun v w' h => h, ?_⟩)
        have e0 : a.eval (.tmp 0) = .int .i64 p := hpar 0 _ (by kernel_rfl) (by kernel_rfl)
        exact wpv_of (wp_move _ _ rfl e0) (fun _ _ => rfl)
      · obtain rfl := Option.some.inj ho
        refine .inr (.inl ⟨3, true, _, 10, rfl, rfl, rfl, (by kernel_rfl), (by kernel_rfl), fun v w' h => h, ?_⟩)
        exact wpv_of (wp_fieldB 30 _ 0 rfl 0 64 fForm0 (w.heap.size + 1) 0 (hpar 5 _ (by kernel_rfl) (by kernel_rfl))) (fun _ _ => rfl)
      · obtain rfl := Option.some.inj ho
        refine .inr (.inl ⟨3, true, _, 10, rfl, rfl, rfl, (by kernel_rfl), (by kernel_rfl), fun v w' h => h, ?_⟩)
        have e12 : a.eval (.tmp 12) = .pointer (some ⟨w.heap.size + 1, 0 + 0, none⟩) := hrd 5 _ 12 rfl rfl (by kernel_rfl) (by kernel_rfl)
        exact wpv_of (wp_load_A 27 _ rfl _ e12 _ _ _ hSx.2.1 uPoly sPoly) (fun _ _ => rfl)
      · obtain rfl := Option.some.inj ho
        refine .inr (.inl ⟨3, true, _, 10, rfl, rfl, rfl, (by kernel_rfl), (by kernel_rfl), fun v w' h => h, ?_⟩)
        have e11 : a.eval (.tmp 11) = .int .i64 p := hrd 4 _ 11 rfl rfl (by kernel_rfl) (by kernel_rfl)
        have e13 : a.eval (.tmp 13) = .agg (u8s 64 (f)) := hrd 6 _ 13 rfl rfl (by kernel_rfl) (by kernel_rfl)
        exact wpv_call 66 [.tmp 11, .tmp 13] _ rfl [.int .i64 p, .agg (u8s 64 (f))] (by simp only [List.map_cons, List.map_nil, e11, e13]) Try.call66 ((r2.out w2).mono fun _ _ ⟨h1, h2⟩ => ⟨_, h1, rfl, h2⟩)
      · obtain rfl := Option.some.inj ho
        refine .inl ⟨rfl, ?_⟩
        have e10 : a.eval (.tmp 10) = .bool true := hrd 3 _ 10 rfl rfl (by kernel_rfl) (by kernel_rfl)
        have e14 : a.eval (.tmp 14) = .bool false := hrd 7 _ 14 rfl rfl (by kernel_rfl) (by kernel_rfl)
        exact wpv_of (wp_pickT _ _ _ rfl e10 (.bool false) e14) (fun _ _ => rfl)
      · obtain rfl := Option.some.inj ho
        refine .inl ⟨rfl, ?_⟩
        have e15 : a.eval (.tmp 15) = .bool false := hrd 8 _ 15 rfl rfl (by kernel_rfl) (by kernel_rfl)
        exact wpv_of (wp_move _ _ rfl e15) (fun _ _ => rfl)
      · obtain rfl := Option.some.inj ho
        exact .inr (.inr ⟨9, true, _, 16, rfl, rfl, rfl, (by kernel_rfl), (by kernel_rfl), fun v w' h => .inl h, fun _ => rfl⟩)
      · obtain rfl := Option.some.inj ho
        exact .inr (.inr ⟨9, true, _, 16, rfl, rfl, rfl, (by kernel_rfl), (by kernel_rfl), fun v w' h => .inl h, fun _ => rfl⟩)
      · obtain rfl := Option.some.inj ho
        exact .inr (.inr ⟨9, true, _, 16, rfl, rfl, rfl, (by kernel_rfl), (by kernel_rfl), fun v w' h => .inl h, fun _ => rfl⟩)
      · obtain rfl := Option.some.inj ho
        exact .inr (.inr ⟨9, true, _, 16, rfl, rfl, rfl, (by kernel_rfl), (by kernel_rfl), fun v w' h => .inl h, fun _ => rfl⟩)
      · obtain rfl := Option.some.inj ho
        refine .inl ⟨rfl, ?_⟩
        have e16 : a.eval (.tmp 16) = .bool false := hrd 9 _ 16 rfl rfl (by kernel_rfl) (by kernel_rfl)
        exact wpv_of (wp_pickF _ _ _ rfl e16 (.bool false) rfl) (fun _ _ => rfl)
      · obtain rfl := Option.some.inj ho
        refine .inl ⟨rfl, ?_⟩
        have e21 : a.eval (.tmp 21) = .bool false := hrd 14 _ 21 rfl rfl (by kernel_rfl) (by kernel_rfl)
        exact wpv_of (wp_move _ _ rfl e21) (fun _ _ => rfl)
      · obtain rfl := Option.some.inj ho
        exact .inr (.inr ⟨15, true, _, 22, rfl, rfl, rfl, (by kernel_rfl), (by kernel_rfl), fun v w' h => .inl h, fun _ => rfl⟩)
      · obtain rfl := Option.some.inj ho
        exact .inr (.inr ⟨15, true, _, 22, rfl, rfl, rfl, (by kernel_rfl), (by kernel_rfl), fun v w' h => .inl h, fun _ => rfl⟩)
      · obtain rfl := Option.some.inj ho
        exact .inr (.inr ⟨15, true, _, 22, rfl, rfl, rfl, (by kernel_rfl), (by kernel_rfl), fun v w' h => .inl h, fun _ => rfl⟩)
      · obtain rfl := Option.some.inj ho
        exact .inr (.inr ⟨15, true, _, 22, rfl, rfl, rfl, (by kernel_rfl), (by kernel_rfl), fun v w' h => .inl h, fun _ => rfl⟩)
      · obtain rfl := Option.some.inj ho
        exact .inr (.inr ⟨15, true, _, 22, rfl, rfl, rfl, (by kernel_rfl), (by kernel_rfl), fun v w' h => .inl h, fun _ => rfl⟩)
      · obtain rfl := Option.some.inj ho
        exact .inr (.inr ⟨15, true, _, 22, rfl, rfl, rfl, (by kernel_rfl), (by kernel_rfl), fun v w' h => .inl h, fun _ => rfl⟩)
      · obtain rfl := Option.some.inj ho
        refine .inl ⟨rfl, ?_⟩
        have e22 : a.eval (.tmp 22) = .bool false := hrd 15 _ 22 rfl rfl (by kernel_rfl) (by kernel_rfl)
        exact wpv_of (wp_pickF _ _ _ rfl e22 (.bool false) rfl) (fun _ _ => rfl)
      · obtain rfl := Option.some.inj ho
        refine .inl ⟨rfl, ?_⟩
        have e29 : a.eval (.tmp 29) = .bool false := hrd 22 _ 29 rfl rfl (by kernel_rfl) (by kernel_rfl)
        exact wpv_of (wp_assign _ _ rfl e29) (fun _ _ => rfl)
      · simp at ho
    intro vals xE hBx hSx hc0
    have e0 : vals 0 = .int .i64 p := hc0 0 (by simp)
    have e1 : vals 1 = .agg (u8s 64 d) := hc0 1 (by simp)
    have e2 : vals 2 = .bool true := hc0 2 (by simp)
    have e3 : vals 3 = .bool true := hc0 3 (by simp)
    have e4 : vals 4 = .int .i64 p := hc0 4 (by simp)
    have e5 : vals 5 = .pointer (some ⟨w.heap.size + 1, 0 + 0, none⟩) := hc0 5 (by simp)
    have e6 : vals 6 = .agg (u8s 64 (f)) := hc0 6 (by simp)
    have e7 : vals 7 = .bool false := hc0 7 (by simp)
    have e8 : vals 8 = .bool false := hc0 8 (by simp)
    have e9 : vals 9 = .bool false := hc0 9 (by simp)
    have e10 : vals 10 = undef := hc0 10 (by simp)
    have e11 : vals 11 = undef := hc0 11 (by simp)
    have e12 : vals 12 = undef := hc0 12 (by simp)
    have e13 : vals 13 = undef := hc0 13 (by simp)
    have e14 : vals 14 = .bool false := hc0 14 (by simp)
    have e15 : vals 15 = .bool false := hc0 15 (by simp)
    have e16 : vals 16 = undef := hc0 16 (by simp)
    have e17 : vals 17 = undef := hc0 17 (by simp)
    have e18 : vals 18 = undef := hc0 18 (by simp)
    have e19 : vals 19 = undef := hc0 19 (by simp)
    have e20 : vals 20 = undef := hc0 20 (by simp)
    have e21 : vals 21 = undef := hc0 21 (by simp)
    have e22 : vals 22 = .bool false := hc0 22 (by simp)
    have e23 : vals 23 = .bool false := hc0 23 (by simp)
    simp only [List.length_cons, List.length_nil, Nat.zero_add, Nat.reduceAdd, List.replicate, putAll, if_true, Act.put, List.setIfInBounds_toArray, List.set_cons_zero, List.set_cons_succ, e0, e1, e2, e3, e4, e5, e6, e7, e8, e9, e10, e11, e12, e13, e14, e15, e16, e17, e18, e19, e20, e21, e22, e23]
    replace hA := hSx.1
    replace hB := hSx.2.1
    replace hb := below_step hb hBx
    clear hc0 hSx e0 e1 e2 e3 e4 e5 e6 e7 e8 e9 e10 e11 e12 e13 e14 e15 e16 e17 e18 e19 e20 e21 e22 e23
    go_wp2_with fail
    go_ret
    exact ⟨rfl, hb⟩
  cases t3
  ·
    have hb2 : b2 = false := bad_of hfo2.out (fun h => of_decide_eq_false h3H.out h.2.1.1)
    subst hb2
    clear hDP hdP
    go_upto_region 1 with (fail)
    refine gen_guard (w := _) (by kernel_rfl) (by kernel_rfl) (by kernel_rfl)
        (fun i => ([fun zv _ => zv = .int .i64 p, fun zv _ => zv = .agg (u8s 64 d), fun zv _ => zv = .bool true, fun zv _ => zv = .bool true, fun zv _ => zv = .int .i64 p, fun zv _ => zv = .pointer (some ⟨w.heap.size + 1, 0 + 0, none⟩), fun zv _ => zv = .agg (u8s 64 (f)), fun zv _ => zv = .bool true, fun zv _ => zv = .bool true, fun zv _ => zv = .bool true, fun zv _ => zv = .int .i64 p, fun zv _ => zv = .pointer (some ⟨w.heap.size + 1, 0 + 64, none⟩), fun zv _ => zv = .agg (u8s 64 (g)), fun zv _ => zv = .bool false, fun zv _ => zv = .bool false, fun zv _ => zv = .bool false, fun zv _ => zv = undef, fun zv _ => zv = undef, fun zv _ => zv = undef, fun zv _ => zv = undef, fun zv _ => zv = undef, fun zv _ => zv = undef, fun zv _ => zv = .bool false, fun zv _ => zv = .bool false] : List (Value → World → Prop)).getD i (fun _ _ => True))
        (fun w' => Blk w' (w.heap.size) (u8s 64 d) 27 ∧ Blk w' (w.heap.size + 1) (u8s 128 (fmF f g)) 30 ∧ True) ⟨hA.drew, hB.drew, trivial⟩ (fun w1 w2 h hb => ⟨h.1.keep hb, h.2.1.keep hb, trivial⟩) ?_ ?_ ?_
    · intro i v w1 w2 h hb
      rcases i with _|_|_|_|_|_|_|_|_|_|_|_|_|_|_|_|_|_|_|_|_|_|_|_|i
      · exact h
      · exact h
      · exact h
      · exact h
      · exact h
      · exact h
      · exact h
      · exact h
      · exact h
      · exact h
      · exact h
      · exact h
      · exact h
      · exact h
      · exact h
      · exact h
      · exact h
      · exact h
      · exact h
      · exact h
      · exact h
      · exact h
      · exact h
      · exact h
      · exact h
    · intro i o ho a w2 hBl hSx hrd hpar
      rcases i with _|_|_|_|_|_|_|_|_|_|_|_|_|_|_|_|_|_|_|_|_|_|_|_|i
      · obtain rfl := Option.some.inj ho
        refine .inl ⟨rfl, ?_⟩
        have e0 : a.eval (.tmp 0) = .int .i64 p := hpar 0 _ (by kernel_rfl) (by kernel_rfl)
        exact wpv_of (wp_move _ _ rfl e0) (fun _ _ => rfl)
      · obtain rfl := Option.some.inj ho
        refine .inl ⟨rfl, ?_⟩
        exact wpv_of (wp_loadB 27 _ rfl _ (hpar 4 (.pointer (some ⟨w.heap.size, 0, none⟩)) (by kernel_rfl) (by kernel_rfl)) _ _ hSx.1 _ _ uPoly sPoly) (fun _ _ => rfl)
      · obtain rfl := Option.some.inj ho
        refine .inl ⟨rfl, ?_⟩
        have e7 : a.eval (.tmp 7) = .int .i64 p := hrd 0 _ 7 rfl rfl (by kernel_rfl) (by kernel_rfl)
        have e8 : a.eval (.tmp 8) = .agg (u8s 64 d) := hrd 1 _ 8 rfl rfl (by kernel_rfl) (by kernel_rfl)
        exact wpv_call 31 [.tmp 7, .tmp 8] _ rfl [.int .i64 p, .agg (u8s 64 d)] (by simp only [List.map_cons, List.map_nil, e7, e8]) Try.call31 ((r1.out w2).mono fun _ _ ⟨h1, h2⟩ => ⟨_, h1, rfl, h2⟩)
      · obtain rfl := Option.some.inj ho
        refine .inl ⟨rfl, ?_⟩
        have e9 : a.eval (.tmp 9) = .bool true := hrd 2 _ 9 rfl rfl (by kernel_rfl) (by kernel_rfl)
        exact wpv_of (wp_move _ _ rfl e9) (fun _ _ => rfl)
      · obtain rfl := Option.some.inj ho
        refine .inr (.inl ⟨3, true, _, 10, rfl, rfl, rfl, (by kernel_rfl), (by kernel_rfl), fun v w' h => h, ?_⟩)
        have e0 : a.eval (.tmp 0) = .int .i64 p := hpar 0 _ (by kernel_rfl) (by kernel_rfl)
        exact wpv_of (wp_move _ _ rfl e0) (fun _ _ => rfl)
      · obtain rfl := Option.some.inj ho
        refine .inr (.inl ⟨3, true, _, 10, rfl, rfl, rfl, (by kernel_rfl), (by kernel_rfl), fun v w' h => h, ?_⟩)
        exact wpv_of (wp_fieldB 30 _ 0 rfl 0 64 fForm0 (w.heap.size + 1) 0 (hpar 5 _ (by kernel_rfl) (by kernel_rfl))) (fun _ _ => rfl)
      · obtain rfl := Option.some.inj ho
        refine .inr (.inl ⟨3, true, _, 10, rfl, rfl, rfl, (by kernel_rfl), (by kernel_rfl), fun v w' h => h, ?_⟩)
        have e12 : a.eval (.tmp 12) = .pointer (some ⟨w.heap.size + 1, 0 + 0, none⟩) := hrd 5 _ 12 rfl rfl (by kernel_rfl) (by kernel_rfl)
        exact wpv_of (wp_load_A 27 _ rfl _ e12 _ _ _ hSx.2.1 uPoly sPoly) (fun _ _ => rfl)
      · obtain rfl := Option.some.inj ho
        refine .inr (.inl ⟨3, true, _, 10, rfl, rfl, rfl, (by kernel_rfl), (by kernel_rfl), fun v w' h => h, ?_⟩)
        have e11 : a.eval (.tmp 11) = .int .i64 p := hrd 4 _ 11 rfl rfl (by kernel_rfl) (by kernel_rfl)
        have e13 : a.eval (.tmp 13) = .agg (u8s 64 (f)) := hrd 6 _ 13 rfl rfl (by kernel_rfl) (by kernel_rfl)
        exact wpv_call 66 [.tmp 11, .tmp 13] _ rfl [.int .i64 p, .agg (u8s 64 (f))] (by simp only [List.map_cons, List.map_nil, e11, e13]) Try.call66 ((r2.out w2).mono fun _ _ ⟨h1, h2⟩ => ⟨_, h1, rfl, h2⟩)
      · obtain rfl := Option.some.inj ho
        refine .inl ⟨rfl, ?_⟩
        have e10 : a.eval (.tmp 10) = .bool true := hrd 3 _ 10 rfl rfl (by kernel_rfl) (by kernel_rfl)
        have e14 : a.eval (.tmp 14) = .bool true := hrd 7 _ 14 rfl rfl (by kernel_rfl) (by kernel_rfl)
        exact wpv_of (wp_pickT _ _ _ rfl e10 (.bool true) e14) (fun _ _ => rfl)
      · obtain rfl := Option.some.inj ho
        refine .inl ⟨rfl, ?_⟩
        have e15 : a.eval (.tmp 15) = .bool true := hrd 8 _ 15 rfl rfl (by kernel_rfl) (by kernel_rfl)
        exact wpv_of (wp_move _ _ rfl e15) (fun _ _ => rfl)
      · obtain rfl := Option.some.inj ho
        refine .inr (.inl ⟨9, true, _, 16, rfl, rfl, rfl, (by kernel_rfl), (by kernel_rfl), fun v w' h => h, ?_⟩)
        have e0 : a.eval (.tmp 0) = .int .i64 p := hpar 0 _ (by kernel_rfl) (by kernel_rfl)
        exact wpv_of (wp_move _ _ rfl e0) (fun _ _ => rfl)
      · obtain rfl := Option.some.inj ho
        refine .inr (.inl ⟨9, true, _, 16, rfl, rfl, rfl, (by kernel_rfl), (by kernel_rfl), fun v w' h => h, ?_⟩)
        exact wpv_of (wp_fieldB 30 _ 1 rfl 64 64 fForm1 (w.heap.size + 1) 0 (hpar 5 _ (by kernel_rfl) (by kernel_rfl))) (fun _ _ => rfl)
      · obtain rfl := Option.some.inj ho
        refine .inr (.inl ⟨9, true, _, 16, rfl, rfl, rfl, (by kernel_rfl), (by kernel_rfl), fun v w' h => h, ?_⟩)
        have e18 : a.eval (.tmp 18) = .pointer (some ⟨w.heap.size + 1, 0 + 64, none⟩) := hrd 11 _ 18 rfl rfl (by kernel_rfl) (by kernel_rfl)
        exact wpv_of (wp_load_B 27 _ rfl _ e18 _ _ _ hSx.2.1 uPoly sPoly) (fun _ _ => rfl)
      · obtain rfl := Option.some.inj ho
        refine .inr (.inl ⟨9, true, _, 16, rfl, rfl, rfl, (by kernel_rfl), (by kernel_rfl), fun v w' h => h, ?_⟩)
        have e17 : a.eval (.tmp 17) = .int .i64 p := hrd 10 _ 17 rfl rfl (by kernel_rfl) (by kernel_rfl)
        have e19 : a.eval (.tmp 19) = .agg (u8s 64 (g)) := hrd 12 _ 19 rfl rfl (by kernel_rfl) (by kernel_rfl)
        exact wpv_call 66 [.tmp 17, .tmp 19] _ rfl [.int .i64 p, .agg (u8s 64 (g))] (by simp only [List.map_cons, List.map_nil, e17, e19]) Try.call66 ((r3.out w2).mono fun _ _ ⟨h1, h2⟩ => ⟨_, h1, rfl, h2⟩)
      · obtain rfl := Option.some.inj ho
        refine .inl ⟨rfl, ?_⟩
        have e16 : a.eval (.tmp 16) = .bool true := hrd 9 _ 16 rfl rfl (by kernel_rfl) (by kernel_rfl)
        have e20 : a.eval (.tmp 20) = .bool false := hrd 13 _ 20 rfl rfl (by kernel_rfl) (by kernel_rfl)
        exact wpv_of (wp_pickT _ _ _ rfl e16 (.bool false) e20) (fun _ _ => rfl)
      · obtain rfl := Option.some.inj ho
        refine .inl ⟨rfl, ?_⟩
        have e21 : a.eval (.tmp 21) = .bool false := hrd 14 _ 21 rfl rfl (by kernel_rfl) (by kernel_rfl)
        exact wpv_of (wp_move _ _ rfl e21) (fun _ _ => rfl)
      · obtain rfl := Option.some.inj ho
        exact .inr (.inr ⟨15, true, _, 22, rfl, rfl, rfl, (by kernel_rfl), (by kernel_rfl), fun v w' h => .inl h, fun _ => rfl⟩)
      · obtain rfl := Option.some.inj ho
        exact .inr (.inr ⟨15, true, _, 22, rfl, rfl, rfl, (by kernel_rfl), (by kernel_rfl), fun v w' h => .inl h, fun _ => rfl⟩)
      · obtain rfl := Option.some.inj ho
        exact .inr (.inr ⟨15, true, _, 22, rfl, rfl, rfl, (by kernel_rfl), (by kernel_rfl), fun v w' h => .inl h, fun _ => rfl⟩)
      · obtain rfl := Option.some.inj ho
        exact .inr (.inr ⟨15, true, _, 22, rfl, rfl, rfl, (by kernel_rfl), (by kernel_rfl), fun v w' h => .inl h, fun _ => rfl⟩)
      · obtain rfl := Option.some.inj ho
        exact .inr (.inr ⟨15, true, _, 22, rfl, rfl, rfl, (by kernel_rfl), (by kernel_rfl), fun v w' h => .inl h, fun _ => rfl⟩)
      · obtain rfl := Option.some.inj ho
        exact .inr (.inr ⟨15, true, _, 22, rfl, rfl, rfl, (by kernel_rfl), (by kernel_rfl), fun v w' h => .inl h, fun _ => rfl⟩)
      · obtain rfl := Option.some.inj ho
        refine .inl ⟨rfl, ?_⟩
        have e22 : a.eval (.tmp 22) = .bool false := hrd 15 _ 22 rfl rfl (by kernel_rfl) (by kernel_rfl)
        exact wpv_of (wp_pickF _ _ _ rfl e22 (.bool false) rfl) (fun _ _ => rfl)
      · obtain rfl := Option.some.inj ho
        refine .inl ⟨rfl, ?_⟩
        have e29 : a.eval (.tmp 29) = .bool false := hrd 22 _ 29 rfl rfl (by kernel_rfl) (by kernel_rfl)
        exact wpv_of (wp_assign _ _ rfl e29) (fun _ _ => rfl)
      · simp at ho
    intro vals xE hBx hSx hc0
    have e0 : vals 0 = .int .i64 p := hc0 0 (by simp)
    have e1 : vals 1 = .agg (u8s 64 d) := hc0 1 (by simp)
    have e2 : vals 2 = .bool true := hc0 2 (by simp)
    have e3 : vals 3 = .bool true := hc0 3 (by simp)
    have e4 : vals 4 = .int .i64 p := hc0 4 (by simp)
    have e5 : vals 5 = .pointer (some ⟨w.heap.size + 1, 0 + 0, none⟩) := hc0 5 (by simp)
    have e6 : vals 6 = .agg (u8s 64 (f)) := hc0 6 (by simp)
    have e7 : vals 7 = .bool true := hc0 7 (by simp)
    have e8 : vals 8 = .bool true := hc0 8 (by simp)
    have e9 : vals 9 = .bool true := hc0 9 (by simp)
    have e10 : vals 10 = .int .i64 p := hc0 10 (by simp)
    have e11 : vals 11 = .pointer (some ⟨w.heap.size + 1, 0 + 64, none⟩) := hc0 11 (by simp)
    have e12 : vals 12 = .agg (u8s 64 (g)) := hc0 12 (by simp)
    have e13 : vals 13 = .bool false := hc0 13 (by simp)
    have e14 : vals 14 = .bool false := hc0 14 (by simp)
    have e15 : vals 15 = .bool false := hc0 15 (by simp)
    have e16 : vals 16 = undef := hc0 16 (by simp)
    have e17 : vals 17 = undef := hc0 17 (by simp)
    have e18 : vals 18 = undef := hc0 18 (by simp)
    have e19 : vals 19 = undef := hc0 19 (by simp)
    have e20 : vals 20 = undef := hc0 20 (by simp)
    have e21 : vals 21 = undef := hc0 21 (by simp)
    have e22 : vals 22 = .bool false := hc0 22 (by simp)
    have e23 : vals 23 = .bool false := hc0 23 (by simp)
    simp only [List.length_cons, List.length_nil, Nat.zero_add, Nat.reduceAdd, List.replicate, putAll, if_true, Act.put, List.setIfInBounds_toArray, List.set_cons_zero, List.set_cons_succ, e0, e1, e2, e3, e4, e5, e6, e7, e8, e9, e10, e11, e12, e13, e14, e15, e16, e17, e18, e19, e20, e21, e22, e23]
    replace hA := hSx.1
    replace hB := hSx.2.1
    replace hb := below_step hb hBx
    clear hc0 hSx e0 e1 e2 e3 e4 e5 e6 e7 e8 e9 e10 e11 e12 e13 e14 e15 e16 e17 e18 e19 e20 e21 e22 e23
    go_wp2_with fail
    go_ret
    exact ⟨rfl, hb⟩
  have h2p := of_decide_eq_true h2H.out
  have h3p := of_decide_eq_true h3H.out
  have hfO : OkP p f := ⟨h2p, hDP.2⟩
  have hgO : OkP p g := ⟨h3p, hDP.2⟩
  have hFr : FrmL p (mkp 64 d) (mkp 64 f) (mkp 64 g) ↔ b2 = true := by
    rw [← hfo2.out]
    exact ⟨fun h => ⟨hfO, hgO, h⟩, fun h => h.2.2⟩
  have r4 := Lib.hid (fun vd va vb w (h1 : IsRow w vd (mkp 64 d)) (h2 : IsRow w va (mkp 64 f)) (h3 : IsRow w vb (mkp 64 g)) => isForm_any vd va vb p _ _ _ b2 w h1 h2 h3 hdP (hfO.p64 hfH.out) (hgO.p64 hgH.out) hFr)
  clear h2p h3p hfO hgO hFr hDP hdP
  go_upto_region 1 with (fail)
  refine gen_guard (w := _) (by kernel_rfl) (by kernel_rfl) (by kernel_rfl)
      (fun i => ([fun zv _ => zv = .int .i64 p, fun zv _ => zv = .agg (u8s 64 d), fun zv _ => zv = .bool true, fun zv _ => zv = .bool true, fun zv _ => zv = .int .i64 p, fun zv _ => zv = .pointer (some ⟨w.heap.size + 1, 0 + 0, none⟩), fun zv _ => zv = .agg (u8s 64 (f)), fun zv _ => zv = .bool true, fun zv _ => zv = .bool true, fun zv _ => zv = .bool true, fun zv _ => zv = .int .i64 p, fun zv _ => zv = .pointer (some ⟨w.heap.size + 1, 0 + 64, none⟩), fun zv _ => zv = .agg (u8s 64 (g)), fun zv _ => zv = .bool true, fun zv _ => zv = .bool true, fun zv _ => zv = .bool true, fun zv _ => zv = .int .i64 p, fun zv _ => zv = .agg (u8s 64 d), fun v w => ∃ vd, v = .agg #[.int .i64 p, vd] ∧ IsRow w vd (mkp 64 d), fun zv _ => zv = .agg (u8s 128 (fmF f g)), fun v w => ∃ va vb, v = .agg #[va, vb] ∧ IsRow w va (mkp 64 f) ∧ IsRow w vb (mkp 64 g), fun zv _ => zv = .bool b2, fun zv _ => zv = .bool b2, fun zv _ => zv = .bool b2] : List (Value → World → Prop)).getD i (fun _ _ => True))
      (fun w' => Blk w' (w.heap.size) (u8s 64 d) 27 ∧ Blk w' (w.heap.size + 1) (u8s 128 (fmF f g)) 30 ∧ True) ⟨hA.drew, hB.drew, trivial⟩ (fun w1 w2 h hb => ⟨h.1.keep hb, h.2.1.keep hb, trivial⟩) ?_ ?_ ?_
  · intro i v w1 w2 h hb
    rcases i with _|_|_|_|_|_|_|_|_|_|_|_|_|_|_|_|_|_|_|_|_|_|_|_|i
    · exact h
    · exact h
    · exact h
    · exact h
    · exact h
    · exact h
    · exact h
    · exact h
    · exact h
    · exact h
    · exact h
    · exact h
    · exact h
    · exact h
    · exact h
    · exact h
    · exact h
    · exact h
    · obtain ⟨vd, e, h1⟩ := h; exact ⟨vd, e, h1.below hb⟩
    · exact h
    · obtain ⟨va, vb, e, h1, h2⟩ := h; exact ⟨va, vb, e, h1.below hb, h2.below hb⟩
    · exact h
    · exact h
    · exact h
    · exact h
  · intro i o ho a w2 hBl hSx hrd hpar
    rcases i with _|_|_|_|_|_|_|_|_|_|_|_|_|_|_|_|_|_|_|_|_|_|_|_|i
    · obtain rfl := Option.some.inj ho
      refine .inl ⟨rfl, ?_⟩
      have e0 : a.eval (.tmp 0) = .int .i64 p := hpar 0 _ (by kernel_rfl) (by kernel_rfl)
      exact wpv_of (wp_move _ _ rfl e0) (fun _ _ => rfl)
    · obtain rfl := Option.some.inj ho
      refine .inl ⟨rfl, ?_⟩
      exact wpv_of (wp_loadB 27 _ rfl _ (hpar 4 (.pointer (some ⟨w.heap.size, 0, none⟩)) (by kernel_rfl) (by kernel_rfl)) _ _ hSx.1 _ _ uPoly sPoly) (fun _ _ => rfl)
    · obtain rfl := Option.some.inj ho
      refine .inl ⟨rfl, ?_⟩
      have e7 : a.eval (.tmp 7) = .int .i64 p := hrd 0 _ 7 rfl rfl (by kernel_rfl) (by kernel_rfl)
      have e8 : a.eval (.tmp 8) = .agg (u8s 64 d) := hrd 1 _ 8 rfl rfl (by kernel_rfl) (by kernel_rfl)
      exact wpv_call 31 [.tmp 7, .tmp 8] _ rfl [.int .i64 p, .agg (u8s 64 d)] (by simp only [List.map_cons, List.map_nil, e7, e8]) Try.call31 ((r1.out w2).mono fun _ _ ⟨h1, h2⟩ => ⟨_, h1, rfl, h2⟩)
    · obtain rfl := Option.some.inj ho
      refine .inl ⟨rfl, ?_⟩
      have e9 : a.eval (.tmp 9) = .bool true := hrd 2 _ 9 rfl rfl (by kernel_rfl) (by kernel_rfl)
      exact wpv_of (wp_move _ _ rfl e9) (fun _ _ => rfl)
    · obtain rfl := Option.some.inj ho
      refine .inr (.inl ⟨3, true, _, 10, rfl, rfl, rfl, (by kernel_rfl), (by kernel_rfl), fun v w' h => h, ?_⟩)
      have e0 : a.eval (.tmp 0) = .int .i64 p := hpar 0 _ (by kernel_rfl) (by kernel_rfl)
      exact wpv_of (wp_move _ _ rfl e0) (fun _ _ => rfl)
    · obtain rfl := Option.some.inj ho
      refine .inr (.inl ⟨3, true, _, 10, rfl, rfl, rfl, (by kernel_rfl), (by kernel_rfl), fun v w' h => h, ?_⟩)
      exact wpv_of (wp_fieldB 30 _ 0 rfl 0 64 fForm0 (w.heap.size + 1) 0 (hpar 5 _ (by kernel_rfl) (by kernel_rfl))) (fun _ _ => rfl)
    · obtain rfl := Option.some.inj ho
      refine .inr (.inl ⟨3, true, _, 10, rfl, rfl, rfl, (by kernel_rfl), (by kernel_rfl), fun v w' h => h, ?_⟩)
      have e12 : a.eval (.tmp 12) = .pointer (some ⟨w.heap.size + 1, 0 + 0, none⟩) := hrd 5 _ 12 rfl rfl (by kernel_rfl) (by kernel_rfl)
      exact wpv_of (wp_load_A 27 _ rfl _ e12 _ _ _ hSx.2.1 uPoly sPoly) (fun _ _ => rfl)
    · obtain rfl := Option.some.inj ho
      refine .inr (.inl ⟨3, true, _, 10, rfl, rfl, rfl, (by kernel_rfl), (by kernel_rfl), fun v w' h => h, ?_⟩)
      have e11 : a.eval (.tmp 11) = .int .i64 p := hrd 4 _ 11 rfl rfl (by kernel_rfl) (by kernel_rfl)
      have e13 : a.eval (.tmp 13) = .agg (u8s 64 (f)) := hrd 6 _ 13 rfl rfl (by kernel_rfl) (by kernel_rfl)
      exact wpv_call 66 [.tmp 11, .tmp 13] _ rfl [.int .i64 p, .agg (u8s 64 (f))] (by simp only [List.map_cons, List.map_nil, e11, e13]) Try.call66 ((r2.out w2).mono fun _ _ ⟨h1, h2⟩ => ⟨_, h1, rfl, h2⟩)
    · obtain rfl := Option.some.inj ho
      refine .inl ⟨rfl, ?_⟩
      have e10 : a.eval (.tmp 10) = .bool true := hrd 3 _ 10 rfl rfl (by kernel_rfl) (by kernel_rfl)
      have e14 : a.eval (.tmp 14) = .bool true := hrd 7 _ 14 rfl rfl (by kernel_rfl) (by kernel_rfl)
      exact wpv_of (wp_pickT _ _ _ rfl e10 (.bool true) e14) (fun _ _ => rfl)
    · obtain rfl := Option.some.inj ho
      refine .inl ⟨rfl, ?_⟩
      have e15 : a.eval (.tmp 15) = .bool true := hrd 8 _ 15 rfl rfl (by kernel_rfl) (by kernel_rfl)
      exact wpv_of (wp_move _ _ rfl e15) (fun _ _ => rfl)
    · obtain rfl := Option.some.inj ho
      refine .inr (.inl ⟨9, true, _, 16, rfl, rfl, rfl, (by kernel_rfl), (by kernel_rfl), fun v w' h => h, ?_⟩)
      have e0 : a.eval (.tmp 0) = .int .i64 p := hpar 0 _ (by kernel_rfl) (by kernel_rfl)
      exact wpv_of (wp_move _ _ rfl e0) (fun _ _ => rfl)
    · obtain rfl := Option.some.inj ho
      refine .inr (.inl ⟨9, true, _, 16, rfl, rfl, rfl, (by kernel_rfl), (by kernel_rfl), fun v w' h => h, ?_⟩)
      exact wpv_of (wp_fieldB 30 _ 1 rfl 64 64 fForm1 (w.heap.size + 1) 0 (hpar 5 _ (by kernel_rfl) (by kernel_rfl))) (fun _ _ => rfl)
    · obtain rfl := Option.some.inj ho
      refine .inr (.inl ⟨9, true, _, 16, rfl, rfl, rfl, (by kernel_rfl), (by kernel_rfl), fun v w' h => h, ?_⟩)
      have e18 : a.eval (.tmp 18) = .pointer (some ⟨w.heap.size + 1, 0 + 64, none⟩) := hrd 11 _ 18 rfl rfl (by kernel_rfl) (by kernel_rfl)
      exact wpv_of (wp_load_B 27 _ rfl _ e18 _ _ _ hSx.2.1 uPoly sPoly) (fun _ _ => rfl)
    · obtain rfl := Option.some.inj ho
      refine .inr (.inl ⟨9, true, _, 16, rfl, rfl, rfl, (by kernel_rfl), (by kernel_rfl), fun v w' h => h, ?_⟩)
      have e17 : a.eval (.tmp 17) = .int .i64 p := hrd 10 _ 17 rfl rfl (by kernel_rfl) (by kernel_rfl)
      have e19 : a.eval (.tmp 19) = .agg (u8s 64 (g)) := hrd 12 _ 19 rfl rfl (by kernel_rfl) (by kernel_rfl)
      exact wpv_call 66 [.tmp 17, .tmp 19] _ rfl [.int .i64 p, .agg (u8s 64 (g))] (by simp only [List.map_cons, List.map_nil, e17, e19]) Try.call66 ((r3.out w2).mono fun _ _ ⟨h1, h2⟩ => ⟨_, h1, rfl, h2⟩)
    · obtain rfl := Option.some.inj ho
      refine .inl ⟨rfl, ?_⟩
      have e16 : a.eval (.tmp 16) = .bool true := hrd 9 _ 16 rfl rfl (by kernel_rfl) (by kernel_rfl)
      have e20 : a.eval (.tmp 20) = .bool true := hrd 13 _ 20 rfl rfl (by kernel_rfl) (by kernel_rfl)
      exact wpv_of (wp_pickT _ _ _ rfl e16 (.bool true) e20) (fun _ _ => rfl)
    · obtain rfl := Option.some.inj ho
      refine .inl ⟨rfl, ?_⟩
      have e21 : a.eval (.tmp 21) = .bool true := hrd 14 _ 21 rfl rfl (by kernel_rfl) (by kernel_rfl)
      exact wpv_of (wp_move _ _ rfl e21) (fun _ _ => rfl)
    · obtain rfl := Option.some.inj ho
      refine .inr (.inl ⟨15, true, _, 22, rfl, rfl, rfl, (by kernel_rfl), (by kernel_rfl), fun v w' h => h, ?_⟩)
      have e0 : a.eval (.tmp 0) = .int .i64 p := hpar 0 _ (by kernel_rfl) (by kernel_rfl)
      exact wpv_of (wp_move _ _ rfl e0) (fun _ _ => rfl)
    · obtain rfl := Option.some.inj ho
      refine .inr (.inl ⟨15, true, _, 22, rfl, rfl, rfl, (by kernel_rfl), (by kernel_rfl), fun v w' h => h, ?_⟩)
      exact wpv_of (wp_loadB 27 _ rfl _ (hpar 4 (.pointer (some ⟨w.heap.size, 0, none⟩)) (by kernel_rfl) (by kernel_rfl)) _ _ hSx.1 _ _ uPoly sPoly) (fun _ _ => rfl)
    · obtain rfl := Option.some.inj ho
      refine .inr (.inl ⟨15, true, _, 22, rfl, rfl, rfl, (by kernel_rfl), (by kernel_rfl), fun v w' h => h, ?_⟩)
      have e23 : a.eval (.tmp 23) = .int .i64 p := hrd 16 _ 23 rfl rfl (by kernel_rfl) (by kernel_rfl)
      have e24 : a.eval (.tmp 24) = .agg (u8s 64 d) := hrd 17 _ 24 rfl rfl (by kernel_rfl) (by kernel_rfl)
      exact wpv_call 14 [.tmp 23, .tmp 24] _ rfl [.int .i64 p, .agg (u8s 64 d)] (by simp only [List.map_cons, List.map_nil, e23, e24]) Try.call14 ((curveOf_any p d w2 hdH.out).mono fun _ _ ⟨vd, h1, h2, h3⟩ => ⟨_, h1, ⟨vd, rfl, h2⟩, h3⟩)
    · obtain rfl := Option.some.inj ho
      refine .inr (.inl ⟨15, true, _, 22, rfl, rfl, rfl, (by kernel_rfl), (by kernel_rfl), fun v w' h => h, ?_⟩)
      exact wpv_of (wp_loadS 30 _ rfl _ (hpar 5 (.pointer (some ⟨w.heap.size + 1, 0, none⟩)) (by kernel_rfl) (by kernel_rfl)) _ _ hSx.2.1 tForm sForm) (fun _ _ => rfl)
    · obtain rfl := Option.some.inj ho
      refine .inr (.inl ⟨15, true, _, 22, rfl, rfl, rfl, (by kernel_rfl), (by kernel_rfl), fun v w' h => h, ?_⟩)
      have e26 : a.eval (.tmp 26) = .agg (u8s 128 (fmF f g)) := hrd 19 _ 26 rfl rfl (by kernel_rfl) (by kernel_rfl)
      exact wpv_call 16 [.tmp 26] _ rfl [.agg (u8s 128 (fmF f g))] (by simp only [List.map_cons, List.map_nil, e26]) Try.call16 ((formOf_any f g w2 hfH.out hgH.out).mono fun _ _ ⟨va, vb, h1, h2, h3, h4⟩ => ⟨_, h1, ⟨va, vb, rfl, h2, h3⟩, h4⟩)
    · obtain rfl := Option.some.inj ho
      refine .inr (.inl ⟨15, true, _, 22, rfl, rfl, rfl, (by kernel_rfl), (by kernel_rfl), fun v w' h => h, ?_⟩)
      have h25 : (fun v w => ∃ vd, v = .agg #[.int .i64 p, vd] ∧ IsRow w vd (mkp 64 d)) (a.eval (.tmp 25)) w2 := hrd 18 _ 25 rfl rfl (by kernel_rfl) (by kernel_rfl)
      generalize e25 : a.eval (.tmp 25) = v25 at h25
      have h27 : (fun v w => ∃ va vb, v = .agg #[va, vb] ∧ IsRow w va (mkp 64 f) ∧ IsRow w vb (mkp 64 g)) (a.eval (.tmp 27)) w2 := hrd 20 _ 27 rfl rfl (by kernel_rfl) (by kernel_rfl)
      generalize e27 : a.eval (.tmp 27) = v27 at h27
      obtain ⟨vd, rfl, hr1⟩ := h25
      obtain ⟨va, vb, rfl, hr2, hr3⟩ := h27
      exact wpv_call 67 [.tmp 25, .tmp 27] _ rfl [.agg #[.int .i64 p, vd], .agg #[va, vb]] (by simp only [List.map_cons, List.map_nil, e25, e27]) Try.call67 ((r4.out _ _ _ w2 hr1 hr2 hr3).mono fun _ _ ⟨h1, h2⟩ => ⟨_, h1, rfl, h2⟩)
    · obtain rfl := Option.some.inj ho
      refine .inl ⟨rfl, ?_⟩
      have e22 : a.eval (.tmp 22) = .bool true := hrd 15 _ 22 rfl rfl (by kernel_rfl) (by kernel_rfl)
      have e28 : a.eval (.tmp 28) = .bool b2 := hrd 21 _ 28 rfl rfl (by kernel_rfl) (by kernel_rfl)
      exact wpv_of (wp_pickT _ _ _ rfl e22 (.bool b2) e28) (fun _ _ => rfl)
    · obtain rfl := Option.some.inj ho
      refine .inl ⟨rfl, ?_⟩
      have e29 : a.eval (.tmp 29) = .bool b2 := hrd 22 _ 29 rfl rfl (by kernel_rfl) (by kernel_rfl)
      exact wpv_of (wp_assign _ _ rfl e29) (fun _ _ => rfl)
    · simp at ho
  intro vals xE hBx hSx hc0
  have e0 : vals 0 = .int .i64 p := hc0 0 (by simp)
  have e1 : vals 1 = .agg (u8s 64 d) := hc0 1 (by simp)
  have e2 : vals 2 = .bool true := hc0 2 (by simp)
  have e3 : vals 3 = .bool true := hc0 3 (by simp)
  have e4 : vals 4 = .int .i64 p := hc0 4 (by simp)
  have e5 : vals 5 = .pointer (some ⟨w.heap.size + 1, 0 + 0, none⟩) := hc0 5 (by simp)
  have e6 : vals 6 = .agg (u8s 64 (f)) := hc0 6 (by simp)
  have e7 : vals 7 = .bool true := hc0 7 (by simp)
  have e8 : vals 8 = .bool true := hc0 8 (by simp)
  have e9 : vals 9 = .bool true := hc0 9 (by simp)
  have e10 : vals 10 = .int .i64 p := hc0 10 (by simp)
  have e11 : vals 11 = .pointer (some ⟨w.heap.size + 1, 0 + 64, none⟩) := hc0 11 (by simp)
  have e12 : vals 12 = .agg (u8s 64 (g)) := hc0 12 (by simp)
  have e13 : vals 13 = .bool true := hc0 13 (by simp)
  have e14 : vals 14 = .bool true := hc0 14 (by simp)
  have e15 : vals 15 = .bool true := hc0 15 (by simp)
  have e16 : vals 16 = .int .i64 p := hc0 16 (by simp)
  have e17 : vals 17 = .agg (u8s 64 d) := hc0 17 (by simp)
  have cE18 : (fun v w => ∃ vd, v = .agg #[.int .i64 p, vd] ∧ IsRow w vd (mkp 64 d)) (vals 18) xE := hc0 18 (by simp)
  generalize ev18 : vals 18 = uE18 at cE18
  have e19 : vals 19 = .agg (u8s 128 (fmF f g)) := hc0 19 (by simp)
  have cE20 : (fun v w => ∃ va vb, v = .agg #[va, vb] ∧ IsRow w va (mkp 64 f) ∧ IsRow w vb (mkp 64 g)) (vals 20) xE := hc0 20 (by simp)
  generalize ev20 : vals 20 = uE20 at cE20
  have e21 : vals 21 = .bool b2 := hc0 21 (by simp)
  have e22 : vals 22 = .bool b2 := hc0 22 (by simp)
  have e23 : vals 23 = .bool b2 := hc0 23 (by simp)
  simp only [List.length_cons, List.length_nil, Nat.zero_add, Nat.reduceAdd, List.replicate, putAll, if_true, Act.put, List.setIfInBounds_toArray, List.set_cons_zero, List.set_cons_succ, e0, e1, e2, e3, e4, e5, e6, e7, e8, e9, e10, e11, e12, e13, e14, e15, e16, e17, ev18, e19, ev20, e21, e22, e23]
  replace hA := hSx.1
  replace hB := hSx.2.1
  replace hb := below_step hb hBx
  clear hc0 hSx e0 e1 e2 e3 e4 e5 e6 e7 e8 e9 e10 e11 e12 e13 e14 e15 e16 e17 ev18 e19 ev20 e21 e22 e23
  go_wp2_with fail
  go_ret
  exact ⟨rfl, hb⟩

end Go.Proofs.Ytohgjihccjnheab

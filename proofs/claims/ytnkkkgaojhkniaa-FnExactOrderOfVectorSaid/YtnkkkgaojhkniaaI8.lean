/- Walks: the order of a vector. -/
import Derived.Test.YtnkkkgaojhkniaaI5
import Derived.Test.YtnkkkgaojhkniaaI7
set_option linter.unusedVariables false
set_option linter.unusedSimpArgs false
namespace Go.Proofs.Ytnkkkgaojhkniaa
open Go.RowKit

/-- The least relation of what a matrix makes of a vector. -/
def IsOrd (p : Int) (F g : Nat → Int) (c : List Int) : Prop := ∃ kr, kr ≤ 6 ∧ Rel p (fun j => cf (lpw p (rowsL F) (mkp 6 g) j)) kr c ∧ ∀ j, j < kr → ¬ ∃ e, Rel p (fun j => cf (lpw p (rowsL F) (mkp 6 g) j)) j e
def orvF (b t : Bool) (c : List Int) : Nat → Int := if b && t then cf c else fun _ => 0
def orvC (b t : Bool) : Int := if b && t then 0 else 1
theorem orvF_no {b t : Bool} (h : b = false ∨ t = false) (c : List Int) : u8s 64 (orvF b t c) = u8s 64 (fun _ => 0) ∧ orvC b t = 1 := by
  have : (b && t) = false := by rcases h with h | h <;> rw [h] <;> simp
  unfold orvF orvC; rw [this]; exact ⟨rfl, rfl⟩

set_option maxRecDepth 20000 in
set_option maxHeartbeats 2000000 in
theorem specOrderOfVector_any (F g : Nat → Int) (p n : Int) (b t : Bool) (c : List Int) (w : World) (hF : By F) (hg : By g) (hb : SqOk p n F ↔ b = true) (ht : RowOk p n g ↔ t = true) (hc : b = true → t = true → IsOrd p F g c) :
    Calls Try.prog 23 #[.int .i64 p, .int .i64 n, .agg (u8s 36 F), .agg (u8s 6 g)] w fun e w' => e = .returned (.tuple #[.agg (u8s 64 (orvF b t c)), .int .i64 (orvC b t)]) ∧ Below w.heap.size w w' := by
  have hFH := Lib.hid hF
  have hgH := Lib.hid hg
  have hbH := Lib.hid hb
  have htH := Lib.hid ht
  have hcH := Lib.hid hc
  clear hF hg hb ht hc
  obtain ⟨hb, hA, hV, hZ⟩ := boxes3 w (u8s 36 F) (u8s 6 g) (u8s 64 fun _ => 0) 27 25 33
  go_enter Try.func23, Try.ntmps23
  go_wp2_with ((with_reducible refine wpl_guard ?_); first | (refine wpl_load_arr rfl 27 _ rfl _ rfl _ _ hA _ _ uSquare sSquare ?_) | (refine wpl_load_arr rfl 25 _ rfl _ rfl _ _ hV _ _ uRow sRow ?_) | (refine wpl_alloc_arr rfl 33 rfl _ zPoly ?_))
  refine (l05Is_any p n F b _ hFH.out hbH.out).mono ?_
  rintro e u1 ⟨rfl, hn⟩
  replace hA := hA.keep hn
  replace hV := hV.keep hn
  replace hZ := hZ.keep hn
  replace hb := below_step hb hn
  clear hn
  cases b
  · go_wp2_with ((with_reducible refine wpl_guard ?_); first | (refine wpl_build_zero rfl 33 64 5 rfl _ uPoly sByte zPoly ?_) | (refine wpl_store_arr rfl 33 _ _ rfl _ rfl _ rfl _ _ hZ sPoly (by simp only [u8s_size]) (u8s_oneCell _ _) ?_))
    exact bodyPost_ret (res_ct (x := .int .i64 1) rfl rfl (hZ.setRow_same (cs := u8s 64 fun _ => 0)) uPoly sPoly rfl) rfl ⟨by rw [(orvF_no (.inl rfl) c).1, (orvF_no (.inl rfl) c).2], below_setRow hb (by omega) _⟩
  have hS := hbH.out.2 (by first | rfl | trivial)
  have hSH := Lib.hid hS
  clear hS
  go_wp2_with ((with_reducible refine wpl_guard ?_); first | (refine wpl_load_arr rfl 27 _ rfl _ rfl _ _ hA _ _ uSquare sSquare ?_) | (refine wpl_load_arr rfl 25 _ rfl _ rfl _ _ hV _ _ uRow sRow ?_) | (refine wpl_alloc_arr rfl 33 rfl _ zPoly ?_))
  refine (l05Row_any p n g _ hgH.out t htH.out).mono ?_
  rintro e u2 ⟨rfl, hn⟩
  replace hA := hA.keep hn
  replace hV := hV.keep hn
  replace hZ := hZ.keep hn
  replace hb := below_step hb hn
  clear hn
  cases t
  · go_wp2_with ((with_reducible refine wpl_guard ?_); first | (refine wpl_build_zero rfl 33 64 5 rfl _ uPoly sByte zPoly ?_) | (refine wpl_store_arr rfl 33 _ _ rfl _ rfl _ rfl _ _ hZ sPoly (by simp only [u8s_size]) (u8s_oneCell _ _) ?_))
    exact bodyPost_ret (res_ct (x := .int .i64 1) rfl rfl (hZ.setRow_same (cs := u8s 64 fun _ => 0)) uPoly sPoly rfl) rfl ⟨by rw [(orvF_no (.inr rfl) c).1, (orvF_no (.inr rfl) c).2], below_setRow hb (by omega) _⟩
  obtain ⟨N, hN⟩ := Int.eq_ofNat_of_zero_le (show 0 ≤ n by have := hSH.out.2.1; omega)
  subst hN
  have hMx := hSH.out.mx hFH.out
  have hr6 := RowOk.r6 hMx.pr hgH.out (htH.out.2 (by first | rfl | trivial))
  obtain ⟨kr, hkr, hRel, hmin⟩ := hcH.out (by first | rfl | trivial) (by first | rfl | trivial)
  have hac := fun w => l05Order_any p N F (rowsL F) (mkp 6 g) kr c w hMx hr6.1 hr6.2 hRel hmin
  rw [← u8s_mkp6] at hac
  have hacH := Lib.hid hac
  clear hac hMx hr6 hRel hmin hSH htH hbH hcH
  go_wp2_with ((with_reducible refine wpl_guard ?_); first | (refine wpl_load_arr rfl 27 _ rfl _ rfl _ _ hA _ _ uSquare sSquare ?_) | (refine wpl_load_arr rfl 25 _ rfl _ rfl _ _ hV _ _ uRow sRow ?_) | (refine wpl_alloc_arr rfl 33 rfl _ zPoly ?_))
  refine (hacH.out _).mono ?_
  rintro e u3 ⟨rfl, hn⟩
  replace hA := hA.keep hn
  replace hV := hV.keep hn
  replace hZ := hZ.keep hn
  replace hb := below_step hb hn
  clear hn
  go_wp2_with ((with_reducible refine wpl_guard ?_); first | (refine wpl_store_arr rfl 33 _ _ rfl _ rfl _ rfl _ _ hZ sPoly (by simp only [u8s_size]) (u8s_oneCell _ _) ?_))
  exact bodyPost_ret (res_ct (x := .int .i64 0) rfl rfl (hZ.setRow_same (cs := u8s 64 (cf c))) uPoly sPoly rfl) rfl ⟨rfl, below_setRow hb (by omega) _⟩

set_option maxRecDepth 20000 in
set_option maxHeartbeats 2000000 in
theorem implOrderOfVector_any (F g : Nat → Int) (p n : Int) (b t : Bool) (c : List Int) (w : World) (hF : By F) (hg : By g) (hb : SqOk p n F ↔ b = true) (ht : RowOk p n g ↔ t = true) (hc : b = true → t = true → IsOrd p F g c) :
    Calls Try.prog 24 #[.int .i64 p, .int .i64 n, .agg (u8s 36 F), .agg (u8s 6 g)] w fun e w' => e = .returned (.tuple #[.agg (u8s 64 (orvF b t c)), .int .i64 (orvC b t)]) ∧ Below w.heap.size w w' := by
  have hFH := Lib.hid hF
  have hgH := Lib.hid hg
  have hbH := Lib.hid hb
  have htH := Lib.hid ht
  have hcH := Lib.hid hc
  clear hF hg hb ht hc
  obtain ⟨hb, hA, hV, hZ⟩ := boxes3 w (u8s 36 F) (u8s 6 g) (u8s 64 fun _ => 0) 27 25 33
  go_enter Try.func24, Try.ntmps24
  go_wp2_with ((with_reducible refine wpl_guard ?_); first | (refine wpl_load_arr rfl 27 _ rfl _ rfl _ _ hA _ _ uSquare sSquare ?_) | (refine wpl_load_arr rfl 25 _ rfl _ rfl _ _ hV _ _ uRow sRow ?_) | (refine wpl_alloc_arr rfl 33 rfl _ zPoly ?_))
  refine (implIsSquare_any p n F b _ hFH.out hbH.out).mono ?_
  rintro e u1 ⟨rfl, hn⟩
  replace hA := hA.keep hn
  replace hV := hV.keep hn
  replace hZ := hZ.keep hn
  replace hb := below_step hb hn
  clear hn
  cases b
  · go_wp2_with ((with_reducible refine wpl_guard ?_); first | (refine wpl_build_zero rfl 33 64 5 rfl _ uPoly sByte zPoly ?_) | (refine wpl_store_arr rfl 33 _ _ rfl _ rfl _ rfl _ _ hZ sPoly (by simp only [u8s_size]) (u8s_oneCell _ _) ?_))
    exact bodyPost_ret (res_ct (x := .int .i64 1) rfl rfl (hZ.setRow_same (cs := u8s 64 fun _ => 0)) uPoly sPoly rfl) rfl ⟨by rw [(orvF_no (.inl rfl) c).1, (orvF_no (.inl rfl) c).2], below_setRow hb (by omega) _⟩
  have hS := hbH.out.2 (by first | rfl | trivial)
  have hSH := Lib.hid hS
  clear hS
  go_wp2_with ((with_reducible refine wpl_guard ?_); first | (refine wpl_load_arr rfl 27 _ rfl _ rfl _ _ hA _ _ uSquare sSquare ?_) | (refine wpl_load_arr rfl 25 _ rfl _ rfl _ _ hV _ _ uRow sRow ?_) | (refine wpl_alloc_arr rfl 33 rfl _ zPoly ?_))
  refine (isRow_any p n g _ hgH.out t htH.out).mono ?_
  rintro e u2 ⟨rfl, hn⟩
  replace hA := hA.keep hn
  replace hV := hV.keep hn
  replace hZ := hZ.keep hn
  replace hb := below_step hb hn
  clear hn
  cases t
  · go_wp2_with ((with_reducible refine wpl_guard ?_); first | (refine wpl_build_zero rfl 33 64 5 rfl _ uPoly sByte zPoly ?_) | (refine wpl_store_arr rfl 33 _ _ rfl _ rfl _ rfl _ _ hZ sPoly (by simp only [u8s_size]) (u8s_oneCell _ _) ?_))
    exact bodyPost_ret (res_ct (x := .int .i64 1) rfl rfl (hZ.setRow_same (cs := u8s 64 fun _ => 0)) uPoly sPoly rfl) rfl ⟨by rw [(orvF_no (.inr rfl) c).1, (orvF_no (.inr rfl) c).2], below_setRow hb (by omega) _⟩
  obtain ⟨N, hN⟩ := Int.eq_ofNat_of_zero_le (show 0 ≤ n by have := hSH.out.2.1; omega)
  subst hN
  have hMx := hSH.out.mx hFH.out
  have hr6 := RowOk.r6 hMx.pr hgH.out (htH.out.2 (by first | rfl | trivial))
  obtain ⟨kr, hkr, hRel, hmin⟩ := hcH.out (by first | rfl | trivial) (by first | rfl | trivial)
  have hn6 := hMx.n6
  have hcl := hRel.len
  have hap := fun vs vx w (h1 : IsRows w vs N (rowsL F)) (h3 : IsRow w vx (mkp 6 g)) => orderOf_any p N F (rowsL F) (mkp 6 g) vs vx kr c w hMx h1 h3 hr6.1.po hr6.2 hRel hmin
  have hcr := fun i => hRel.po.md i
  have hpp := hMx.pr.pos
  have htl := fun v w (h : IsRow w v c) => told_any v c w h (fun i => by have := hcr i; omega)
  rw [show toldF c = cf c from if_pos (by omega), show toldC c = 0 from if_pos (by omega)] at htl
  have hmt := fun w => matrix_rows F N w hFH.out hn6
  have hvc := fun w => vector_any g w (fun i _ => hgH.out i)
  have hapH := Lib.hid hap
  have htlH := Lib.hid htl
  have hmtH := Lib.hid hmt
  have hvcH := Lib.hid hvc
  clear hap htl hmt hvc hMx hr6 hRel hmin hSH htH hbH hcH hcr hcl
  go_upto_region 3 with (fail)
  go_upto_region 3 with (fail)
  refine gen_region (ws := w) (w := _) (B := w.heap.size) (by kernel_rfl) (by kernel_rfl) (by kernel_rfl) (by kernel_rfl)
      (fun i => ([fun zv _ => zv = .int .i64 p, fun zv _ => zv = .int .i64 N, fun zv _ => zv = .agg (u8s 36 F), fun v w => IsRows w v N (rowsL F), fun zv _ => zv = .agg (u8s 6 g), fun v w => IsRow w v (mkp 6 g), fun v w => IsRow w v (c), fun zv _ => zv = .tuple #[.agg (u8s 64 (cf c)), .int .i64 0], fun zv _ => zv = .agg (u8s 64 (cf c)), fun zv _ => zv = .int .i64 0, fun _ _ => True, fun zv _ => zv = .int .i64 0] : List (Value → World → Prop)).getD i (fun _ _ => True))
      (fun i => ([true, true, true, false, true, false, false, false, true, true, true, true] : List Bool).getD i true)
      1 (fun zk => [10].getD zk 0) (fun zk => [8].getD zk 0) (fun zk => [8].getD zk 0) (fun zk => [31].getD zk 0) (fun zk => [w.heap.size + 1 + 1].getD zk 0) (fun zk => [64].getD zk 0) (fun zk => [(cf c)].getD zk (fun _ => 0)) (fun zk => [(fun _ => 0)].getD zk (fun _ => 0)) (fun zk => [33].getD zk 0) hb (Nat.le_refl _)
      (fun w' => Blk w' (w.heap.size) (u8s 36 F) 27 ∧ Blk w' (w.heap.size + 1) (u8s 6 g) 25 ∧ True) ⟨hA.drew, hV.drew, trivial⟩ (fun w1 w2 h hb => ⟨h.1.keep hb, h.2.1.keep hb, trivial⟩) ?_ ?_ ?_ ?_ ?_ ?_ ?_
  · intro k hk w1 cs h
    rcases k with _|k
    · exact ⟨h.1.setRow_other (by simp only [List.getD_cons_zero, List.getD_cons_succ] <;> omega), h.2.1.setRow_other (by simp only [List.getD_cons_zero, List.getD_cons_succ] <;> omega), trivial⟩
    · omega
  · intro i v w1 w2 h hb
    rcases i with _|_|_|_|_|_|_|_|_|_|_|_|i
    · exact h
    · exact h
    · exact h
    · exact (show IsRows w1 v N (rowsL F) from h).below hb
    · exact h
    · exact (show IsRow w1 v (mkp 6 g) from h).below hb
    · exact (show IsRow w1 v (c) from h).below hb
    · exact h
    · exact h
    · exact h
    · exact h
    · exact h
    · exact h
  · intro k hk
    rcases k with _|k
    · kernel_rfl
    · omega
  · intro k hk
    rcases k with _|k
    · refine ⟨?_, (by kernel_rfl), hZ, fun v w' h => h, by decide, ?_⟩
      · simp only [List.getD_cons_zero, List.getD_cons_succ] <;> omega
      · intro k' hk' hne
        rcases k' with _|k'
        all_goals first | omega | exact absurd rfl hne | (refine ⟨?_, by decide⟩; simp only [List.getD_cons_zero, List.getD_cons_succ]; omega)
    · omega
  · kernel_rfl
  · intro i o ho hz a w2 hBs hSx hBl hrd hpar
    rcases i with _|_|_|_|_|_|_|_|_|_|_|_|i
    · obtain rfl := Option.some.inj ho
      have e0 : a.eval (.tmp 0) = .int .i64 p := hpar 0 _ (by kernel_rfl) (by kernel_rfl)
      exact wpv_of (wp_move _ _ rfl e0) (fun _ _ => rfl)
    · obtain rfl := Option.some.inj ho
      have e1 : a.eval (.tmp 1) = .int .i64 N := hpar 1 _ (by kernel_rfl) (by kernel_rfl)
      exact wpv_of (wp_move _ _ rfl e1) (fun _ _ => rfl)
    · obtain rfl := Option.some.inj ho
      exact wpv_of (wp_loadB 27 _ rfl _ (hpar 6 (.pointer (some ⟨w.heap.size, 0, none⟩)) (by kernel_rfl) (by kernel_rfl)) _ _ hSx.1 _ _ uSquare sSquare) (fun _ _ => rfl)
    · obtain rfl := Option.some.inj ho
      obtain ⟨_, e24⟩ : ∃ _w : World, a.eval (.tmp 24) = .int .i64 N := (hrd 1 _ 24 rfl rfl (by kernel_rfl) (by kernel_rfl) (by decide)).1
      obtain ⟨_, e25⟩ : ∃ _w : World, a.eval (.tmp 25) = .agg (u8s 36 F) := (hrd 2 _ 25 rfl rfl (by kernel_rfl) (by kernel_rfl) (by decide)).1
      exact wpv_call 52 [.tmp 24, .tmp 25] _ rfl [.int .i64 N, .agg (u8s 36 F)] (by simp only [List.map_cons, List.map_nil, e24, e25]) Try.call52 (hmtH.out w2)
    · obtain rfl := Option.some.inj ho
      exact wpv_of (wp_loadB 25 _ rfl _ (hpar 7 (.pointer (some ⟨w.heap.size + 1, 0, none⟩)) (by kernel_rfl) (by kernel_rfl)) _ _ hSx.2.1 _ _ uRow sRow) (fun _ _ => rfl)
    · obtain rfl := Option.some.inj ho
      obtain ⟨_, e27⟩ : ∃ _w : World, a.eval (.tmp 27) = .agg (u8s 6 g) := (hrd 4 _ 27 rfl rfl (by kernel_rfl) (by kernel_rfl) (by decide)).1
      exact wpv_call 53 [.tmp 27] _ rfl [.agg (u8s 6 g)] (by simp only [List.map_cons, List.map_nil, e27]) Try.call53 ((hvcH.out w2).mono fun _ _ ⟨v, h1, h2, _, h3⟩ => ⟨v, h1, h2, h3⟩)
    · obtain rfl := Option.some.inj ho
      obtain ⟨_, e23⟩ : ∃ _w : World, a.eval (.tmp 23) = .int .i64 p := (hrd 0 _ 23 rfl rfl (by kernel_rfl) (by kernel_rfl) (by decide)).1
      have h26 : (fun v w => IsRows w v N (rowsL F)) (a.eval (.tmp 26)) w2 := (hrd 3 _ 26 rfl rfl (by kernel_rfl) (by kernel_rfl) (by decide)).2 rfl
      generalize e26 : a.eval (.tmp 26) = v26 at h26
      have h28 : (fun v w => IsRow w v (mkp 6 g)) (a.eval (.tmp 28)) w2 := (hrd 5 _ 28 rfl rfl (by kernel_rfl) (by kernel_rfl) (by decide)).2 rfl
      generalize e28 : a.eval (.tmp 28) = v28 at h28
      exact wpv_call 56 [.tmp 23, .tmp 26, .tmp 28] _ rfl [.int .i64 p, v26, v28] (by simp only [List.map_cons, List.map_nil, e23, e26, e28]) Try.call56 (hapH.out _ _ w2 h26 h28)
    · obtain rfl := Option.some.inj ho
      have h29 : (fun v w => IsRow w v (c)) (a.eval (.tmp 29)) w2 := (hrd 6 _ 29 rfl rfl (by kernel_rfl) (by kernel_rfl) (by decide)).2 rfl
      generalize e29 : a.eval (.tmp 29) = v29 at h29
      exact wpv_call 55 [.tmp 29] _ rfl [v29] (by simp only [List.map_cons, List.map_nil, e29]) Try.call55 ((htlH.out _ w2 h29).mono fun _ _ ⟨h1, h2⟩ => ⟨_, h1, rfl, h2⟩)
    · obtain rfl := Option.some.inj ho
      obtain ⟨_, e30⟩ : ∃ _w : World, a.eval (.tmp 30) = .tuple #[.agg (u8s 64 (cf c)), .int .i64 0] := (hrd 7 _ 30 rfl rfl (by kernel_rfl) (by kernel_rfl) (by decide)).1
      exact wpv_of (wp_extract _ 0 #[.agg (u8s 64 (cf c)), .int .i64 0] _ rfl e30 rfl) (fun _ _ => rfl)
    · obtain rfl := Option.some.inj ho
      obtain ⟨_, e30⟩ : ∃ _w : World, a.eval (.tmp 30) = .tuple #[.agg (u8s 64 (cf c)), .int .i64 0] := (hrd 7 _ 30 rfl rfl (by kernel_rfl) (by kernel_rfl) (by decide)).1
      exact wpv_of (wp_extract _ 1 #[.agg (u8s 64 (cf c)), .int .i64 0] _ rfl e30 rfl) (fun _ _ => rfl)
    · exact absurd rfl (hz 0 (by decide))
    · obtain rfl := Option.some.inj ho
      obtain ⟨_, e32⟩ : ∃ _w : World, a.eval (.tmp 32) = .int .i64 0 := (hrd 9 _ 32 rfl rfl (by kernel_rfl) (by kernel_rfl) (by decide)).1
      exact wpv_of (wp_assign _ _ rfl e32) (fun _ _ => rfl)
    · simp at ho
  intro vals xE hBx hSx hS0 hcs hrs
  obtain ⟨_, e0⟩ : ∃ _w : World, vals 0 = .int .i64 p := hcs 0 (by simp) (by decide)
  obtain ⟨_, e1⟩ : ∃ _w : World, vals 1 = .int .i64 N := hcs 1 (by simp) (by decide)
  obtain ⟨_, e2⟩ : ∃ _w : World, vals 2 = .agg (u8s 36 F) := hcs 2 (by simp) (by decide)
  obtain ⟨_, e4⟩ : ∃ _w : World, vals 4 = .agg (u8s 6 g) := hcs 4 (by simp) (by decide)
  obtain ⟨_, e7⟩ : ∃ _w : World, vals 7 = .tuple #[.agg (u8s 64 (cf c)), .int .i64 0] := hcs 7 (by simp) (by decide)
  obtain ⟨_, e8⟩ : ∃ _w : World, vals 8 = .agg (u8s 64 (cf c)) := hcs 8 (by simp) (by decide)
  obtain ⟨_, e9⟩ : ∃ _w : World, vals 9 = .int .i64 0 := hcs 9 (by simp) (by decide)
  obtain ⟨_, e11⟩ : ∃ _w : World, vals 11 = .int .i64 0 := hcs 11 (by simp) (by decide)
  have hsE0 : Blk xE (w.heap.size + 1 + 1) (u8s 64 (cf c)) 33 := hrs 0 (by decide)
  simp only [List.length_cons, List.length_nil, Nat.zero_add, Nat.reduceAdd, List.replicate, putAll, if_true, Act.put, List.setIfInBounds_toArray, List.set_cons_zero, List.set_cons_succ, e0, e1, e2, e4, e7, e8, e9, e11]
  replace hA := hSx.1
  replace hV := hSx.2.1
  clear hcs hrs hS0 hSx e0 e1 e2 e4 e7 e8 e9 e11
  go_wp2_with fail
  exact bodyPost_ret (res_ct (x := .int .i64 0) rfl rfl hsE0 uPoly sPoly rfl) rfl ⟨rfl, hBx⟩

theorem OrderOfVector_pair (p n : Int) (F g : Nat → Int) (_ : (Lit.int .i64 p).wf = true) (_ : (Lit.int .i64 n).wf = true) (hF : By F) (hg : By g) : ∃ (r0 : Nat → Int) (r1 : Int),
    (∀ w, Calls Try.prog 23 #[.int .i64 p, .int .i64 n, .agg (u8s 36 F), .agg (u8s 6 g)] w fun e w' => e = .returned (.tuple #[.agg (u8s 64 r0), .int .i64 r1]) ∧ Below w.heap.size w w') ∧
    (∀ w, Calls Try.prog 24 #[.int .i64 p, .int .i64 n, .agg (u8s 36 F), .agg (u8s 6 g)] w fun e w' => e = .returned (.tuple #[.agg (u8s 64 r0), .int .i64 r1]) ∧ Below w.heap.size w w') := by
  obtain ⟨b, hb⟩ := dec_true (SqOk p n F)
  obtain ⟨t, ht⟩ := dec_true (RowOk p n g)
  obtain ⟨c, hc⟩ : ∃ c, b = true → t = true → IsOrd p F g c := by
    by_cases h : b = true ∧ t = true
    · have hS := hb.2 h.1
      obtain ⟨N, hN⟩ := Int.eq_ofNat_of_zero_le (show 0 ≤ n by have := hS.2.1; omega)
      subst hN
      have hMx := hS.mx hF
      have hr6 := RowOk.r6 hMx.pr hg (ht.2 h.2)
      obtain ⟨kr, c, h1, h2, h3⟩ := least_rel hMx.pr (lpw_Po (M := rowsL F) hMx.pr.pos.1 hr6.1.po) (lpw_len hMx.le hr6.2)
      exact ⟨c, fun _ _ => ⟨kr, Nat.le_trans h1 hMx.n6, h2, h3⟩⟩
    · exact ⟨[], fun h1 h2 => absurd ⟨h1, h2⟩ h⟩
  exact ⟨_, _, fun w => specOrderOfVector_any F g p n b t c w hF hg hb ht hc, fun w => implOrderOfVector_any F g p n b t c w hF hg hb ht hc⟩
end Go.Proofs.Ytnkkkgaojhkniaa

/- Walks: CharacteristicOf. -/
import Derived.Test.YtnkkkgaojhkniabSp7
set_option linter.unusedVariables false
set_option linter.unusedSimpArgs false
namespace Go.Proofs.Ytnkkkgaojhkniab
open Go.RowKit
theorem setRowS_grown (w : World) (g : Nat) (cs : Array Value) : w.grownBy (w.setRow g cs) (some g) := ⟨rfl, rfl, rfl, by simp, fun k _ hk => setRow_other w g k cs (fun e => hk (by rw [e]))⟩
theorem gkP {p n : Int} {F : Nat → Int} {N : Nat} {M : MxL} (h : Fac p n F N M) (k : Nat) (hk : k ≤ N) : Po p (gk p (fun i => M i i) k) ∧ (gk p (fun i => M i i) k).length ≤ 8 :=
  ⟨(gk_monic h.pr (D := fun i => M i i) k fun j hj => ⟨h.sm.po j j (by omega) (by omega), h.sm.piv j (by omega)⟩).1, h.len k hk⟩
set_option maxRecDepth 20000 in
set_option maxHeartbeats 4000000 in
theorem l05Characteristic_any (F : Nat → Int) (p n : Int) (N : Nat) (M : MxL) (w : World) (h : Fac p n F N M) :
    Calls Try.prog 37 #[.int .i64 p, .int .i64 n, .agg (u8s 36 F)] w fun e w' => e = .returned (.agg (u8s 64 (cf (gk p (fun i => M i i) N)))) ∧ Below w.heap.size w w' := by
  have hf := Lib.hid h
  have hN0 := h.pos
  have hN6 := h.le
  have hNI : (N : Int) ≤ 6 := by omega
  clear h
  obtain ⟨hb, hA, hZ⟩ := boxes2 w (u8s 36 F) (u8s 64 fun _ => 0) 30 25
  go_enter Try.func37, Try.ntmps37
  go_wp2_with ((with_reducible refine wpl_guard ?_); first | (refine wpl_load_arr rfl 30 _ rfl _ rfl _ _ hA _ _ uSquare sSquare ?_) | (refine wpl_alloc_arr rfl 25 rfl _ zPoly ?_))
  refine (hf.out.factors _).mono ?_
  rintro e u2 ⟨g, cc, rfl, hg, hL0, hn⟩
  replace hA := hA.keep hn
  replace hZ := hZ.keep hn
  replace hb := below_step hb hn
  clear hn
  have hL := Lib.hid (hL0.mono (Nat.zero_le _))
  clear hL0
  go_wp2_with fail
  refine (l01One_any _).mono ?_
  rintro e u3 ⟨rfl, hn⟩
  replace hL := Lib.hid (hL.out.below hn)
  replace hA := hA.keep hn
  replace hZ := hZ.keep hn
  replace hb := below_step hb hn
  clear hn
  clear hA
  have hO := Blk.new u3 (u8s 64 (cf [1])) 25
  have hn := below_new u3 (.cells (u8s 64 (cf [1])) 25)
  have hgZ := hZ.lt
  have hgl := (hL.out.lt g rfl).2
  have hbs := hb.size
  replace hL := Lib.hid (hL.out.below hn)
  replace hZ := hZ.keep hn
  replace hb := below_step hb hn
  clear hn
  go_upto_region 2 with ((with_reducible refine wpl_guard ?_); first | (refine wpl_alloc_arr rfl 25 rfl _ zPoly ?_) | (refine wpl_store_new rfl 25 _ _ rfl _ rfl rfl _ rfl sPoly (by simp only [u8s_size]) (u8s_oneCell _ _) ?_))
  generalize World.alloc u3 _ = wa at *
  obtain ⟨gO, hgO⟩ : ∃ q, u3.heap.size = q := ⟨_, rfl⟩
  rw [hgO] at hO hgZ hgl hbs ⊢
  clear hgO
  go_wp2_with fail
  go_loopw [9] (fun vi wr => ∃ ix : Nat, vi = .int .i64 (ix : Int) ∧ ix ≤ N ∧ Blk wr gO (u8s 64 (cf (gk p (fun i => M i i) ix))) 25 ∧ Hid (BsL 25 64 wr 0 (.slice (some ⟨g, 0, none⟩) N cc) N (fun i => monic p (M i i))) ∧ Blk wr (w.heap.size + 1) (u8s 64 fun _ => 0) 25 ∧ Below w.heap.size w wr) (fun vi _ => N - (intOf vi).toNat)
  case atStart => exact ⟨0, rfl, by omega, hO, hL, hZ, hb⟩
  case round =>
    clear hO hL hZ hb
    obtain ⟨ix, rfl, hixN, hO, hL, hZ, hb⟩ := hrel
    by_cases hix : ix < N
    · have hixI : (ix : Int) < (N : Int) := by omega
      have k1 := gkP hf.out ix (by omega)
      have k2 := gkP hf.out (ix + 1) (by omega)
      have k3 := hf.out.mlen hix
      have htm := Lib.hid (fun w => l01Times_in (gk p (fun i => M i i) ix) (monic p (M ix ix)) p w ⟨hf.out.pr, k1.1, by omega⟩ ⟨hf.out.pr, hf.out.po ix, by omega⟩ (by have : (mulp p (gk p (fun i => M i i) ix) (monic p (M ix ix))).length ≤ 8 := k2.2; omega))
      obtain ⟨GN, hGN⟩ : ∃ x, gk p (fun i => M i i) (ix + 1) = x := ⟨_, rfl⟩
      rw [show mulp p (gk p (fun i => M i i) ix) (monic p (M ix ix)) = GN from hGN] at htm
      have hGNH := Lib.hid hGN
      clear hGN k1 k2 k3
      go_wp2_with fail
      go_upto_region 5 with (fail)
      refine law_region2 (by kernel_rfl) (by kernel_rfl) (by kernel_rfl) (by kernel_rfl)
          (fun i => ([some (.int .i64 p), some (.agg (u8s 64 (cf (gk p (fun i => M i i) ix)))), some (.slice (some ⟨g, 0, none⟩) N cc), some (.int .i64 (ix : Int)), some (.pointer (some ⟨g, ix * 64, none⟩)), some (.agg (u8s 64 (cf (monic p (M ix ix))))), some (.tuple #[.agg (u8s 64 (cf GN)), .bool true]), some (.tuple #[.agg (u8s 64 (cf GN)), .bool true]), some (.agg (u8s 64 (cf GN))), some (.bool true), none, none, some (.bool true)] : List (Option Value)).getD i none) 1 (fun zk => [10].getD zk 0) (fun zk => [11].getD zk 0) (fun zk => [8].getD zk 0) (fun zk => [10].getD zk 0) (fun zk => [31].getD zk 0) (fun zk => [64].getD zk 0) (fun zk => [(cf GN)].getD zk (fun _ => 0)) (fun zk => [25].getD zk 0) ?_ ?_ ?_ ?_ ?_ ?_
      · intro i hi
        rcases i with _|_|_|_|_|_|_|_|_|_|_|_|_|i
        · exact .inl ⟨_, rfl⟩
        · exact .inl ⟨_, rfl⟩
        · exact .inl ⟨_, rfl⟩
        · exact .inl ⟨_, rfl⟩
        · exact .inl ⟨_, rfl⟩
        · exact .inl ⟨_, rfl⟩
        · exact .inl ⟨_, rfl⟩
        · exact .inl ⟨_, rfl⟩
        · exact .inl ⟨_, rfl⟩
        · exact .inl ⟨_, rfl⟩
        · exact .inr (.inl ⟨0, by decide, rfl⟩)
        · exact .inr (.inr ⟨0, by decide, rfl⟩)
        · exact .inl ⟨_, rfl⟩
        · simp only [List.length_cons, List.length_nil] at hi; omega
      · intro k hk
        rcases k with _|k
        · exact ⟨rfl, rfl, rfl, zPoly⟩
        · omega
      · intro k hk k' hk'
        rcases k with _|k
        all_goals rcases k' with _|k'
        all_goals first | omega | exact ⟨by decide, by decide, by decide⟩
      · intro k hk
        rcases k with _|k
        · kernel_rfl
        · omega
      · intro i o c ho hc a w9 hBw hrd hpar
        rcases i with _|_|_|_|_|_|_|_|_|_|_|_|_|i
        · obtain rfl := Option.some.inj ho
          obtain rfl := Option.some.inj hc
          exact wp_move _ (.int .i64 p) rfl (hpar 0 _ (by kernel_rfl) (by kernel_rfl))
        · obtain rfl := Option.some.inj ho
          obtain rfl := Option.some.inj hc
          exact wp_loadB 25 _ rfl _ (hpar 8 (.pointer (some ⟨gO, 0, none⟩)) (by kernel_rfl) (by kernel_rfl)) _ _ (hO.keep hBw) _ _ uPoly sPoly
        · obtain rfl := Option.some.inj ho
          obtain rfl := Option.some.inj hc
          exact wp_move _ (.slice (some ⟨g, 0, none⟩) N cc) rfl (hpar 7 _ (by kernel_rfl) (by kernel_rfl))
        · obtain rfl := Option.some.inj ho
          obtain rfl := Option.some.inj hc
          exact wp_move _ (.int .i64 (ix : Int)) rfl (hpar 9 _ (by kernel_rfl) (by kernel_rfl))
        · obtain rfl := Option.some.inj ho
          obtain rfl := Option.some.inj hc
          exact wp_index_bs 38 25 64 _ _ rfl uTlnT sPoly (by decide) g N cc ix .i64 (hrd 2 _ _ 26 rfl rfl rfl (by kernel_rfl) (by kernel_rfl)) (hrd 3 _ _ 27 rfl rfl rfl (by kernel_rfl) (by kernel_rfl)) hix
        · obtain rfl := Option.some.inj ho
          obtain rfl := Option.some.inj hc
          exact wp_load_bs 25 _ rfl 64 g (ix * 64) (hrd 4 _ _ 28 rfl rfl rfl (by kernel_rfl) (by kernel_rfl)) (cf (monic p (M ix ix))) (fun q hq => (hL.out.below hBw).cells (by decide) ix hix q hq) 5 uPoly sPoly
        · obtain rfl := Option.some.inj ho
          obtain rfl := Option.some.inj hc
          exact wp_callB 72 [.tmp 24, .tmp 25, .tmp 29] _ rfl [.int .i64 p, .agg (u8s 64 (cf (gk p (fun i => M i i) ix))), .agg (u8s 64 (cf (monic p (M ix ix))))] (by simp only [List.map_cons, List.map_nil, (hrd 0 _ _ 24 rfl rfl rfl (by kernel_rfl) (by kernel_rfl)), (hrd 1 _ _ 25 rfl rfl rfl (by kernel_rfl) (by kernel_rfl)), (hrd 5 _ _ 29 rfl rfl rfl (by kernel_rfl) (by kernel_rfl))]) Try.call72 _ (htm.out w9)
        · obtain rfl := Option.some.inj ho
          obtain rfl := Option.some.inj hc
          exact wp_move _ (.tuple #[.agg (u8s 64 (cf GN)), .bool true]) rfl (hrd 6 _ _ 30 rfl rfl rfl (by kernel_rfl) (by kernel_rfl))
        · obtain rfl := Option.some.inj ho
          obtain rfl := Option.some.inj hc
          exact wp_extract _ 0 #[.agg (u8s 64 (cf GN)), .bool true] _ rfl (hrd 7 _ _ 23 rfl rfl rfl (by kernel_rfl) (by kernel_rfl)) rfl
        · obtain rfl := Option.some.inj ho
          obtain rfl := Option.some.inj hc
          exact wp_extract _ 1 #[.agg (u8s 64 (cf GN)), .bool true] _ rfl (hrd 7 _ _ 23 rfl rfl rfl (by kernel_rfl) (by kernel_rfl)) rfl
        · cases hc
        · cases hc
        · obtain rfl := Option.some.inj ho
          obtain rfl := Option.some.inj hc
          exact wp_assign _ (.bool true) rfl (hrd 9 _ _ 32 rfl rfl rfl (by kernel_rfl) (by kernel_rfl))
        · cases hc
      intro vals xK hBw hc hr
      have e0 : vals 0 = .int .i64 p := hc 0 _ (by simp) rfl
      have e1 : vals 1 = .agg (u8s 64 (cf (gk p (fun i => M i i) ix))) := hc 1 _ (by simp) rfl
      have e2 : vals 2 = .slice (some ⟨g, 0, none⟩) N cc := hc 2 _ (by simp) rfl
      have e3 : vals 3 = .int .i64 (ix : Int) := hc 3 _ (by simp) rfl
      have e4 : vals 4 = .pointer (some ⟨g, ix * 64, none⟩) := hc 4 _ (by simp) rfl
      have e5 : vals 5 = .agg (u8s 64 (cf (monic p (M ix ix)))) := hc 5 _ (by simp) rfl
      have e6 : vals 6 = .tuple #[.agg (u8s 64 (cf GN)), .bool true] := hc 6 _ (by simp) rfl
      have e7 : vals 7 = .tuple #[.agg (u8s 64 (cf GN)), .bool true] := hc 7 _ (by simp) rfl
      have e8 : vals 8 = .agg (u8s 64 (cf GN)) := hc 8 _ (by simp) rfl
      have e9 : vals 9 = .bool true := hc 9 _ (by simp) rfl
      have e12 : vals 12 = .bool true := hc 12 _ (by simp) rfl
      obtain ⟨gK0, p0, hgK0, hK0⟩ : ∃ g, vals 10 = .pointer (some ⟨g, 0, none⟩) ∧ _ ≤ g ∧ Blk xK g (u8s 64 (cf GN)) 25 := hr 0 (by decide)
      simp only [List.length_cons, List.length_nil, Nat.zero_add, Nat.reduceAdd, List.replicate, putAll, if_true, Act.put, List.setIfInBounds_toArray, List.set_cons_zero, List.set_cons_succ, e0, e1, e2, e3, e4, e5, e6, e7, e8, e9, e12, p0]
      replace hO := hO.keep hBw
      replace hZ := hZ.keep hBw
      clear hc hr e0 e1 e2 e3 e4 e5 e6 e7 e8 e9 e12 p0
      replace hL := Lib.hid (hL.out.below hBw)
      replace hb := below_step hb hBw
      clear htm hBw
      go_wp2_with ((with_reducible refine wpl_guard ?_); first | (refine wpl_load_arr rfl 25 _ rfl _ rfl _ _ hK0 _ _ uPoly sPoly ?_) | (refine wpl_store_arr rfl 25 _ _ rfl _ rfl _ rfl _ _ hO sPoly (by simp only [u8s_size]) (u8s_oneCell _ _) ?_))
      replace hO := hO.setRow_same (cs := u8s 64 (cf GN))
      replace hZ := hZ.setRow_other (g := gO) (cs := u8s 64 (cf GN)) (by omega)
      have hL2 := Lib.hid (hL.out.kept (setRowS_grown xK gO (u8s 64 (cf GN))) (.inr fun e => by have e2 : g = gO := Option.some.inj e; omega))
      replace hb := below_setRow hb hbs (u8s 64 (cf GN))
      have hO3 : Blk (xK.setRow gO (u8s 64 (cf GN))) gO (u8s 64 (cf (gk p (fun i => M i i) (ix + 1)))) 25 := by rw [hGNH.out]; exact hO
      clear hL hK0 hgK0
      go_roundw
      case rel => exact ⟨ix + 1, by go_num, by omega, hO3, hL2, hZ, hb⟩
      case measure => simp [intOf] <;> omega
    · have e : N = ix := by omega
      subst e
      go_wp2_with ((with_reducible refine wpl_guard ?_); first | (refine wpl_load_arr rfl 25 _ rfl _ rfl _ _ hO _ _ uPoly sPoly ?_) | (refine wpl_store_arr rfl 25 _ _ rfl _ rfl _ rfl _ _ hZ sPoly (by simp only [u8s_size]) (u8s_oneCell _ _) ?_))
      exact bodyPost_ret (res_c rfl rfl (hZ.setRow_same (cs := u8s 64 (cf (gk p (fun i => M i i) N)))) uPoly sPoly) rfl ⟨rfl, below_setRow hb (by omega) _⟩
set_option maxRecDepth 20000 in
set_option maxHeartbeats 4000000 in
theorem specCharacteristicOf_any (F : Nat → Int) (p n : Int) (b : Bool) (X : List Int) (w : World) (hF : By F) (hb : SqOk p n F ↔ b = true) (hX : b = true → ∃ N M, Fac p n F N M ∧ X = gk p (fun i => M i i) N) :
    Calls Try.prog 15 #[.int .i64 p, .int .i64 n, .agg (u8s 36 F)] w fun e w' => e = .returned (.tuple #[.agg (u8s 64 (onF b X)), .int .i64 (onC b)]) ∧ Below w.heap.size w w' := by
  have hFH := Lib.hid hF
  have hbH := Lib.hid hb
  have hXH := Lib.hid hX
  clear hF hb hX
  obtain ⟨hb, hA, hZ⟩ := boxes2 w (u8s 36 F) (u8s 64 fun _ => 0) 30 25
  go_enter Try.func15, Try.ntmps15
  go_wp2_with ((with_reducible refine wpl_guard ?_); first | (refine wpl_load_arr rfl 30 _ rfl _ rfl _ _ hA _ _ uSquare sSquare ?_) | (refine wpl_alloc_arr rfl 25 rfl _ zPoly ?_))
  refine (l05Is_any p n F b _ hFH.out hbH.out).mono ?_
  rintro e u1 ⟨rfl, hn⟩
  replace hA := hA.keep hn
  replace hZ := hZ.keep hn
  replace hb := below_step hb hn
  clear hn
  cases b
  · go_wp2_with ((with_reducible refine wpl_guard ?_); first | (refine wpl_build_zero rfl 25 64 5 rfl _ uPoly sByte zPoly ?_) | (refine wpl_store_arr rfl 25 _ _ rfl _ rfl _ rfl _ _ hZ sPoly (by simp only [u8s_size]) (u8s_oneCell _ _) ?_))
    exact bodyPost_ret (res_ct (x := .int .i64 1) rfl rfl (hZ.setRow_same (cs := u8s 64 fun _ => 0)) uPoly sPoly rfl) rfl ⟨rfl, below_setRow hb (by omega) _⟩
  obtain ⟨N, M, hfac, hXe⟩ := hXH.out rfl
  have hf := Lib.hid hfac
  have hXeH := Lib.hid hXe
  have hN0 := hfac.pos
  have hN6 := hfac.le
  have hNI : (N : Int) ≤ 6 := by omega
  clear hfac hXe hXH hbH hFH
  obtain rfl := hXeH.out
  go_wp2_with ((with_reducible refine wpl_guard ?_); first | (refine wpl_load_arr rfl 30 _ rfl _ rfl _ _ hA _ _ uSquare sSquare ?_))
  refine (l05Characteristic_any F p n N M _ hf.out).mono ?_
  rintro e u2 ⟨rfl, hn⟩
  replace hA := hA.keep hn
  replace hZ := hZ.keep hn
  replace hb := below_step hb hn
  clear hn
  go_wp2_with ((with_reducible refine wpl_guard ?_); first | (refine wpl_store_arr rfl 25 _ _ rfl _ rfl _ rfl _ _ hZ sPoly (by simp only [u8s_size]) (u8s_oneCell _ _) ?_))
  exact bodyPost_ret (res_ct (x := .int .i64 0) rfl rfl (hZ.setRow_same (cs := u8s 64 (cf _))) uPoly sPoly rfl) rfl ⟨rfl, below_setRow hb (by omega) _⟩
set_option maxRecDepth 20000 in
set_option maxHeartbeats 4000000 in
theorem implCharacteristicOf_any (F : Nat → Int) (p n : Int) (b : Bool) (X : List Int) (w : World) (hF : By F) (hb : SqOk p n F ↔ b = true) (hX : b = true → ∃ N M, Fac p n F N M ∧ X = gk p (fun i => M i i) N) :
    Calls Try.prog 16 #[.int .i64 p, .int .i64 n, .agg (u8s 36 F)] w fun e w' => e = .returned (.tuple #[.agg (u8s 64 (onF b X)), .int .i64 (onC b)]) ∧ Below w.heap.size w w' := by
  have hFH := Lib.hid hF
  have hbH := Lib.hid hb
  have hXH := Lib.hid hX
  clear hF hb hX
  obtain ⟨hb, hA, hZ⟩ := boxes2 w (u8s 36 F) (u8s 64 fun _ => 0) 30 25
  go_enter Try.func16, Try.ntmps16
  go_wp2_with ((with_reducible refine wpl_guard ?_); first | (refine wpl_load_arr rfl 30 _ rfl _ rfl _ _ hA _ _ uSquare sSquare ?_) | (refine wpl_alloc_arr rfl 25 rfl _ zPoly ?_))
  refine (implIsSquare_any p n F b _ hFH.out hbH.out).mono ?_
  rintro e u1 ⟨rfl, hn⟩
  replace hA := hA.keep hn
  replace hZ := hZ.keep hn
  replace hb := below_step hb hn
  clear hn
  cases b
  · go_wp2_with ((with_reducible refine wpl_guard ?_); first | (refine wpl_build_zero rfl 25 64 5 rfl _ uPoly sByte zPoly ?_) | (refine wpl_store_arr rfl 25 _ _ rfl _ rfl _ rfl _ _ hZ sPoly (by simp only [u8s_size]) (u8s_oneCell _ _) ?_))
    exact bodyPost_ret (res_ct (x := .int .i64 1) rfl rfl (hZ.setRow_same (cs := u8s 64 fun _ => 0)) uPoly sPoly rfl) rfl ⟨rfl, below_setRow hb (by omega) _⟩
  obtain ⟨N, M, hfac, hXe⟩ := hXH.out rfl
  have hf := Lib.hid hfac
  have hXeH := Lib.hid hXe
  have hN0 := hfac.pos
  have hN6 := hfac.le
  have hNI : (N : Int) ≤ 6 := by omega
  clear hfac hXe hXH hbH hFH
  obtain rfl := hXeH.out
  have k0 : ([1] : List Int) = gk p (fun i => M i i) 0 := rfl
  have h1 := Lib.hid (IsRow_one _ _ _ ((Blk.new u1 #[Value.int IntKind.i64 1] 2).cell 0))
  have hn := below_new u1 (.cells #[Value.int IntKind.i64 1] 2)
  replace hA := hA.keep hn
  replace hZ := hZ.keep hn
  replace hb := below_step hb hn
  clear hn
  clear hXeH
  go_wp2_with ((with_reducible refine wpl_guard ?_); first | (refine wpl_load_arr rfl 30 _ rfl _ rfl _ _ hA _ _ uSquare sSquare ?_))
  generalize World.alloc u1 _ = wa at *
  refine (hf.out.mat _).mono ?_
  rintro e u2 ⟨v2, rfl, hR, hn⟩
  replace h1 := Lib.hid (h1.out.below hn)
  replace hA := hA.keep hn
  replace hZ := hZ.keep hn
  replace hb := below_step hb hn
  clear hn
  go_wp2_with fail
  refine (hf.out.invs _ _ hR).mono ?_
  rintro e u3 ⟨g, cc, R, rfl, hg, hL0, hRw0, hn⟩
  replace h1 := Lib.hid (h1.out.below hn)
  replace hA := hA.keep hn
  replace hZ := hZ.keep hn
  replace hb := below_step hb hn
  clear hn
  have hL := Lib.hid hL0
  have hRw := Lib.hid hRw0
  clear hR hL0 hRw0 hg
  go_wp2_with fail
  go_loopw [8, 24] (fun v8 vi wr => ∃ ix : Nat, vi = .int .i64 (ix : Int) ∧ ix ≤ N ∧ Hid (IsRow wr v8 (gk p (fun i => M i i) ix)) ∧ Hid (∀ i, i < N → IsRow wr (R i) (monic p (M i i))) ∧ Hid (∀ i, i < N → wr.cell? ⟨g, i, none⟩ = some (R i)) ∧ Blk wr (w.heap.size + 1) (u8s 64 fun _ => 0) 25 ∧ Below w.heap.size w wr) (fun _ vi _ => N - (intOf vi).toNat)
  case atStart => exact ⟨0, rfl, by omega, Lib.hid (by rw [← k0]; exact h1.out), hRw, Lib.hid fun i hi => hL.out.cellR hi, hZ, hb⟩
  case round =>
    clear h1 hRw hL hZ hb hA k0
    obtain ⟨ix, rfl, hixN, h8, hRw, hC, hZ, hb⟩ := hrel
    rename World => wr
    by_cases hix : ix < N
    · have hixI : (ix : Int) < (N : Int) := by omega
      have k1 := gkP hf.out ix (by omega)
      have k3 := hf.out.mlen hix
      have ht := Lib.hid (fun v8 vr w (ha : IsRow w v8 (gk p (fun i => M i i) ix)) (hb : IsRow w vr (monic p (M ix ix))) => times_any v8 vr _ _ p w hf.out.pr ha hb k1.1.md (hf.out.po ix).md (by omega) (by omega))
      have c1 := hC.out ix hix
      have hrow := Lib.hid (hRw.out ix hix)
      obtain ⟨oR, cR, hRe⟩ := (hRw.out ix hix).form
      rw [hRe] at c1 hrow
      clear k1 k3 hRe
      go_wp2_with fail
      refine (ht.out _ _ _ h8.out hrow.out).mono ?_
      rintro e u4 ⟨v4, rfl, hr4, hn⟩
      have h9 := Lib.hid (show IsRow u4 v4 (gk p (fun i => M i i) (ix + 1)) from hr4)
      replace hRw := Lib.hid (fun i (hi : i < N) => (hRw.out i hi).below hn)
      replace hC := Lib.hid (fun i (hi : i < N) => cell_below (hC.out i hi) hn)
      replace hZ := hZ.keep hn
      replace hb := below_step hb hn
      clear hn hr4 h8 c1 hrow ht
      go_wp2_with fail
      go_roundw
      case rel => exact ⟨ix + 1, by go_num, by omega, h9, hRw, hC, hZ, hb⟩
      case measure => simp [intOf] <;> omega
    · have e : N = ix := by omega
      subst e
      have k1 := gkP hf.out N (Nat.le_refl _)
      have htold := Lib.hid (fun v w (h : IsRow w v (gk p (fun i => M i i) N)) => told_Po v w hf.out.pr h k1.1 (by omega))
      clear k1
      go_wp2_with fail
      refine (htold.out _ _ h8.out).mono ?_
      rintro e u4 ⟨rfl, hn⟩
      replace hZ := hZ.keep hn
      replace hb := below_step hb hn
      clear hn htold h8 hRw hC
      go_wp2_with ((with_reducible refine wpl_guard ?_); first | (refine wpl_store_arr rfl 25 _ _ rfl _ rfl _ rfl _ _ hZ sPoly (by simp only [u8s_size]) (u8s_oneCell _ _) ?_))
      exact bodyPost_ret (res_ct (x := .int .i64 0) rfl rfl (hZ.setRow_same (cs := u8s 64 (cf _))) uPoly sPoly rfl) rfl ⟨rfl, below_setRow hb (by omega) _⟩
theorem CharacteristicOf_pair (p n : Int) (F : Nat → Int) (_ : (Lit.int .i64 p).wf = true) (_ : (Lit.int .i64 n).wf = true) (hF : By F) : ∃ (r0 : Nat → Int) (r1 : Int),
    (∀ w, Calls Try.prog 15 #[.int .i64 p, .int .i64 n, .agg (u8s 36 F)] w fun e w' => e = .returned (.tuple #[.agg (u8s 64 r0), .int .i64 r1]) ∧ Below w.heap.size w w') ∧
    (∀ w, Calls Try.prog 16 #[.int .i64 p, .int .i64 n, .agg (u8s 36 F)] w fun e w' => e = .returned (.tuple #[.agg (u8s 64 r0), .int .i64 r1]) ∧ Below w.heap.size w w') := by
  obtain ⟨b, hb⟩ := dec_true (SqOk p n F)
  obtain ⟨X, hX⟩ : ∃ X : List Int, b = true → ∃ N M, Fac p n F N M ∧ X = gk p (fun i => M i i) N := by
    cases b
    · exact ⟨[], fun h => by cases h⟩
    · obtain ⟨N, M, h⟩ := fac_ok hF (hb.2 rfl)
      exact ⟨_, fun _ => ⟨N, M, h, rfl⟩⟩
  exact ⟨_, _, fun w => specCharacteristicOf_any F p n b X w hF hb hX, fun w => implCharacteristicOf_any F p n b X w hF hb hX⟩
end Go.Proofs.Ytnkkkgaojhkniab

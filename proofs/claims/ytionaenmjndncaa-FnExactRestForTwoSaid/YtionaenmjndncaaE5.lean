/- Walks: the polynomial with two rests, the reference. -/
import Derived.Test.YtionaenmjndncaaE4
import Derived.Test.YtionaenmjndncaaPureB
set_option linter.unusedVariables false
set_option linter.unusedSimpArgs false
namespace Go.Proofs.Ytionaenmjndncaa
open Go.RowKit

theorem by3 {f g k : Nat → Int} (hf : By f) (hg : By g) (hk : By k) : ∀ h ∈ [f, g, k], By h := by
  intro h hh
  rcases List.mem_cons.1 hh with rfl | hh
  · exact hf
  · exact by2 hg hk h hh
theorem by4 {f g k l : Nat → Int} (hf : By f) (hg : By g) (hk : By k) (hl : By l) : ∀ h ∈ [f, g, k, l], By h := by
  intro h hh
  rcases List.mem_cons.1 hh with rfl | hh
  · exact hf
  · exact by3 hg hk hl h hh
theorem Good_swap {p : Int} {f g : Nat → Int} {l : List (Nat → Int)} : Good p (f :: g :: l) ↔ Good p (g :: f :: l) := by
  unfold Good
  constructor <;> exact fun h => ⟨h.1, fun k hk => h.2 k (by simp only [List.mem_cons] at hk ⊢; rcases hk with h | h | h <;> simp [h])⟩
theorem Good_sub {p : Int} {l l' : List (Nat → Int)} (h : Good p l) (hs : ∀ f ∈ l', f ∈ l) : Good p l' := ⟨h.1, fun f hf => h.2 f (hs f hf)⟩
def twoA (b c1 c2 d : Bool) (M : List Int) : Nat → Int := if b then (if c1 then (if c2 then (if d then cf M else fun _ => 0) else fun _ => 0) else fun _ => 0) else fun _ => 0
def twoC (b c1 c2 d : Bool) : Int := if b then (if c1 then (if c2 then (if d then 0 else 5) else 2) else 2) else 1

set_option maxRecDepth 20000 in
set_option maxHeartbeats 2000000 in
theorem specRestForTwo_any (f0 f1 f2 f3 : Nat → Int) (p : Int) (b c1 c2 d : Bool) (M : List Int) (w : World) (h0 : By f0) (h1 : By f1) (h2 : By f2) (h3 : By f3) (hb : Good p [f0, f1, f2, f3] ↔ b = true) (hc1 : decide (Mon (mkp 64 f1)) = c1) (hc2 : decide (Mon (mkp 64 f3)) = c2) (hd : decide ((bez p (mkp 64 f1) (mkp 64 f3)).1 = [1]) = d) (hM : twoS p (mkp 64 f0) (mkp 64 f1) (mkp 64 f2) (mkp 64 f3) = M) :
    Calls Try.prog 24 #[.int .i64 p, .agg (u8s 64 f0), .agg (u8s 64 f1), .agg (u8s 64 f2), .agg (u8s 64 f3)] w fun e w' => e = .returned (.tuple #[.agg (u8s 64 (twoA b c1 c2 d M)), .int .i64 (twoC b c1 c2 d)]) ∧ Below w.heap.size w w' := by
  have h0H := Lib.hid h0
  have h1H := Lib.hid h1
  have h2H := Lib.hid h2
  have h3H := Lib.hid h3
  have hbH := Lib.hid hb
  have hc1H := Lib.hid hc1
  have hc2H := Lib.hid hc2
  have hdH := Lib.hid hd
  have hMH := Lib.hid hM
  clear h0 h1 h2 h3 hb hc1 hc2 hd hM
  obtain ⟨w0, hw0, hb, hA, hB, hD, hE, hZ⟩ := boxes5 w (u8s 64 f0) (u8s 64 f1) (u8s 64 f2) (u8s 64 f3) (u8s 64 fun _ => 0) 26 26 26 26 26
  have hw0H := Lib.hid hw0.symm
  clear hw0
  go_enter Try.func24, Try.ntmps24
  go_upto_region 1 with ((with_reducible refine wpl_guard ?_); first | (refine wpl_alloc_arr rfl 26 rfl _ zPoly ?_))
  rw [hw0H.out]
  clear hw0H
  go_wp2_with ((with_reducible refine wpl_guard ?_); first | (refine wpl_load_arr rfl 26 _ rfl _ rfl _ _ hA _ _ uPoly sPoly ?_) | (refine wpl_load_arr rfl 26 _ rfl _ rfl _ _ hB _ _ uPoly sPoly ?_) | (refine wpl_load_arr rfl 26 _ rfl _ rfl _ _ hD _ _ uPoly sPoly ?_) | (refine wpl_load_arr rfl 26 _ rfl _ rfl _ _ hE _ _ uPoly sPoly ?_) | (refine wpl_buildSlice_polys rfl 75 26 3 _ rfl Try.underlying75 sPoly zPoly [f0, f2, f3] rfl (by decide) (by decide) rfl ?_))
  refine (l02Modulus_lit f1 [f0, f2, f3] 3 192 rfl rfl (by omega) p _ _ _ (Blk.newAt (by simp) _ _) h1H.out (by3 h0H.out h2H.out h3H.out) b c1 (by rw [← hbH.out]; exact Good_swap) hc1H.out).mono ?_
  rintro e u0 ⟨rfl, hn⟩
  replace hA := (hA.alloc _).keep hn
  replace hB := (hB.alloc _).keep hn
  replace hD := (hD.alloc _).keep hn
  replace hE := (hE.alloc _).keep hn
  replace hZ := (hZ.alloc _).keep hn
  replace hb := below_step hb (below_step (below_new _ _) hn)
  clear hn
  cases b
  · go_wp2_with ((with_reducible refine wpl_guard ?_); first | (refine wpl_build_zero rfl 26 64 5 rfl _ uPoly sByte zPoly ?_) | (refine wpl_store_arr rfl 26 _ _ rfl _ rfl _ rfl _ _ hZ sPoly (by simp only [u8s_size]) (u8s_oneCell _ _) ?_))
    exact bodyPost_ret (res_ct (x := .int .i64 1) rfl rfl (hZ.setRow_same (cs := u8s 64 fun _ => 0)) uPoly sPoly rfl) rfl ⟨rfl, below_setRow hb (by omega) _⟩
  cases c1
  · go_wp2_with ((with_reducible refine wpl_guard ?_); first | (refine wpl_build_zero rfl 26 64 5 rfl _ uPoly sByte zPoly ?_) | (refine wpl_store_arr rfl 26 _ _ rfl _ rfl _ rfl _ _ hZ sPoly (by simp only [u8s_size]) (u8s_oneCell _ _) ?_))
    exact bodyPost_ret (res_ct (x := .int .i64 2) rfl rfl (hZ.setRow_same (cs := u8s 64 fun _ => 0)) uPoly sPoly rfl) rfl ⟨rfl, below_setRow hb (by omega) _⟩
  go_wp2_with ((with_reducible refine wpl_guard ?_); first | (refine wpl_load_arr rfl 26 _ rfl _ rfl _ _ hE _ _ uPoly sPoly ?_))
  refine (l02Modulus_one f3 p _ h3H.out true c2 ⟨fun _ => rfl, fun _ => Good_sub (hbH.out.2 (by first | rfl | trivial)) (by simp)⟩ hc2H.out).mono ?_
  rintro e u1 ⟨rfl, hn⟩
  replace hA := hA.keep hn
  replace hB := hB.keep hn
  replace hD := hD.keep hn
  replace hE := hE.keep hn
  replace hZ := hZ.keep hn
  replace hb := below_step hb hn
  clear hn
  cases c2
  · go_wp2_with ((with_reducible refine wpl_guard ?_); first | (refine wpl_build_zero rfl 26 64 5 rfl _ uPoly sByte zPoly ?_) | (refine wpl_store_arr rfl 26 _ _ rfl _ rfl _ rfl _ _ hZ sPoly (by simp only [u8s_size]) (u8s_oneCell _ _) ?_))
    exact bodyPost_ret (res_ct (x := .int .i64 2) rfl rfl (hZ.setRow_same (cs := u8s 64 fun _ => 0)) uPoly sPoly rfl) rfl ⟨rfl, below_setRow hb (by omega) _⟩
  have hG := hbH.out.2 (by first | rfl | trivial)
  have hx0 : P64 p (mkp 64 f0) := hG.p64 (f := f0) (by simp) h0H.out
  have hx1 : P64 p (mkp 64 f1) := hG.p64 (f := f1) (by simp) h1H.out
  have hx2 : P64 p (mkp 64 f2) := hG.p64 (f := f2) (by simp) h2H.out
  have hx3 : P64 p (mkp 64 f3) := hG.p64 (f := f3) (by simp) h3H.out
  have m1 := of_decide_eq_true hc1H.out
  have m3 := of_decide_eq_true hc2H.out
  have n1 := m1.ne
  have n3 := m3.ne
  obtain ⟨a, ha⟩ : ∃ a, mkp 64 f0 = a := ⟨_, rfl⟩
  obtain ⟨x, hx⟩ : ∃ a, mkp 64 f1 = a := ⟨_, rfl⟩
  obtain ⟨c, hc⟩ : ∃ a, mkp 64 f2 = a := ⟨_, rfl⟩
  obtain ⟨y, hy⟩ : ∃ a, mkp 64 f3 = a := ⟨_, rfl⟩
  have ea : u8s 64 f0 = u8s 64 (cf a) := by rw [u8s_mkp f0, ha]
  have ex : u8s 64 f1 = u8s 64 (cf x) := by rw [u8s_mkp f1, hx]
  have ec : u8s 64 f2 = u8s 64 (cf c) := by rw [u8s_mkp f2, hc]
  have ey : u8s 64 f3 = u8s 64 (cf y) := by rw [u8s_mkp f3, hy]
  have hd1 := hdH.out
  have hM1 := hMH.out
  rw [ha] at hx0
  rw [hx] at hx1 m1 n1
  rw [hc] at hx2
  rw [hy] at hx3 m3 n3
  rw [hx, hy] at hd1
  rw [ha, hx, hc, hy] at hM1
  rw [ea] at hA
  rw [ex] at hB
  rw [ec] at hD
  rw [ey] at hE
  have hg := fun w => l01Gcd_any x y p w hx1 hx3
  rw [show gcdp p x y = (bez p x y).1 from if_neg fun h => n1 h.1] at hg
  obtain ⟨q1, q2, q3⟩ := bez_P64 hx1 hx3 (Or.inl n1)
  obtain ⟨W, hW⟩ : ∃ W, rst p a x = W := ⟨_, rfl⟩
  have hWP : P64 p W := hW ▸ rst_P64 hx0 hx1 n1
  have s1 := fun w => l01Mod_any a x p w hx0 hx1 n1
  rw [hW] at s1
  have s2 := fun w => l02Inverse_any x y p w hx1 hx3 n3
  obtain ⟨I, hI⟩ : ∃ I, rst p (bez p (rst p x y) y).2.1 y = I := ⟨_, rfl⟩
  have hIP : P64 p I := hI ▸ rst_P64 (bez_P64 (rst_P64 hx1 hx3 n3) hx3 (Or.inr n3)).2.1 hx3 n3
  rw [hI] at s2
  have s3 := fun w => l01Add_list c W p (-1) w hx2 hWP (by decide) (by decide)
  obtain ⟨V, hV⟩ : ∃ V, addp p c W (-1) = V := ⟨_, rfl⟩
  have hVP : P64 p V := hV ▸ hx2.addp hWP (-1)
  rw [hV] at s3
  obtain ⟨R, hR⟩ : ∃ R, rst p V y = R := ⟨_, rfl⟩
  have hRP : P64 p R := hR ▸ rst_P64 hVP hx3 n3
  have s4 := fun w => l01Mod_any V y p w hVP hx3 n3
  rw [hR] at s4
  obtain ⟨S, hS⟩ : ∃ S, mulmod p I R y = S := ⟨_, rfl⟩
  have hSP : P64 p S := hS ▸ mulmod_P64 I R hx3 n3
  have s5 := fun w => l01MulMod_any I R y p w hIP hRP hx3 n3
  rw [hS] at s5
  have hSt : twoStep p a x c y = S := by unfold twoStep; rw [hI, hW, hV, hR, hS]
  have hlen := twoS_len (b := c) hx0.pr hx0.po hx1.po hx3.po n1 n3
  rw [hSt] at hlen
  have hX2 := m1.2.2
  have hY2 := m3.2.2
  have s6 := fun w => l01Times_in x S p w hx1 hSP (by omega)
  obtain ⟨Q, hQ⟩ : ∃ Q, mulp p x S = Q := ⟨_, rfl⟩
  have hQP : P64 p Q := hQ ▸ hx1.mulp (by omega)
  rw [hQ] at s6
  have s7 := fun w => l01Add_list W Q p 1 w hWP hQP (by decide) (by decide)
  have hfin : addp p W Q 1 = M := by rw [← hM1]; unfold twoS; rw [hSt, hW, hQ]
  rw [hfin] at s7
  have hgH := Lib.hid hg
  obtain ⟨D, hDD⟩ : ∃ D, (bez p x y).1 = D := ⟨_, rfl⟩
  rw [hDD] at hgH hd1 q1
  have hq1 := Lib.hid q1
  have hd1H := Lib.hid hd1
  have k1 := Lib.hid s1
  have k2 := Lib.hid s2
  have k3 := Lib.hid s3
  have k4 := Lib.hid s4
  have k5 := Lib.hid s5
  have k6 := Lib.hid s6
  have k7 := Lib.hid s7
  clear hg q1 q2 q3 hW s1 s2 hI s3 hV hR s4 hS s5 hSt hlen hX2 hY2 s6 hQ s7 hfin hWP hIP hVP hRP hSP hQP hDD hd1 hM1 hdH hMH hx0 hx1 hx2 hx3 m1 m3 n1 n3 ha hx hc hy ea ex ec ey hG hbH hc1H hc2H
  go_wp2_with ((with_reducible refine wpl_guard ?_); first | (refine wpl_load_arr rfl 26 _ rfl _ rfl _ _ hB _ _ uPoly sPoly ?_) | (refine wpl_load_arr rfl 26 _ rfl _ rfl _ _ hE _ _ uPoly sPoly ?_))
  refine (hgH.out _).mono ?_
  rintro e u2 ⟨rfl, hn⟩
  replace hA := hA.keep hn
  replace hB := hB.keep hn
  replace hD := hD.keep hn
  replace hE := hE.keep hn
  replace hZ := hZ.keep hn
  replace hb := below_step hb hn
  clear hn
  go_wp2_with fail
  refine (l01One_any _).mono ?_
  rintro e u3 ⟨rfl, hn⟩
  replace hA := hA.keep hn
  replace hB := hB.keep hn
  replace hD := hD.keep hn
  replace hE := hE.keep hn
  replace hZ := hZ.keep hn
  replace hb := below_step hb hn
  clear hn
  cases d
  · go_wp2_with ((with_reducible refine wpl_guard ?_); first | (refine wpl_neq_arr rfl 26 _ _ _ rfl 64 .u8 (cf D) (cf [1]) 5 rfl rfl uPoly uByte sByte gPoly _ (eq_one_dec hq1.out hd1H.out) ?_) | (refine wpl_build_zero rfl 26 64 5 rfl _ uPoly sByte zPoly ?_) | (refine wpl_store_arr rfl 26 _ _ rfl _ rfl _ rfl _ _ hZ sPoly (by simp only [u8s_size]) (u8s_oneCell _ _) ?_))
    exact bodyPost_ret (res_ct (x := .int .i64 5) rfl rfl (hZ.setRow_same (cs := u8s 64 fun _ => 0)) uPoly sPoly rfl) rfl ⟨rfl, below_setRow hb (by omega) _⟩
  go_wp2_with ((with_reducible refine wpl_guard ?_); first | (refine wpl_neq_arr rfl 26 _ _ _ rfl 64 .u8 (cf D) (cf [1]) 5 rfl rfl uPoly uByte sByte gPoly _ (eq_one_dec hq1.out hd1H.out) ?_) | (refine wpl_load_arr rfl 26 _ rfl _ rfl _ _ hA _ _ uPoly sPoly ?_) | (refine wpl_load_arr rfl 26 _ rfl _ rfl _ _ hB _ _ uPoly sPoly ?_))
  refine (k1.out _).mono ?_
  rintro e u4 ⟨rfl, hn⟩
  replace hA := hA.keep hn
  replace hB := hB.keep hn
  replace hD := hD.keep hn
  replace hE := hE.keep hn
  replace hZ := hZ.keep hn
  replace hb := below_step hb hn
  clear hn
  go_upto_region 9 with ((with_reducible refine wpl_guard ?_); first | (refine wpl_new1 26 zPoly sPoly _ _ rfl rfl rfl rfl rfl rfl _ rfl ?_; intro w4 hn hN; replace hA := hA.keep hn; replace hB := hB.keep hn; replace hD := hD.keep hn; replace hE := hE.keep hn; replace hZ := hZ.keep hn; replace hb := below_step hb hn; clear hn))
  refine law_region2 (by kernel_rfl) (by kernel_rfl) (by kernel_rfl) (by kernel_rfl)
      (fun i => ([some (.int .i64 p), some (.int .i64 p), some (.agg (u8s 64 (cf x))), some (.agg (u8s 64 (cf y))), some (.agg (u8s 64 (cf I))), some (.int .i64 p), some (.int .i64 p), some (.agg (u8s 64 (cf c))), some (.agg (u8s 64 (cf W))), some (.agg (u8s 64 (cf V))), some (.agg (u8s 64 (cf y))), some (.agg (u8s 64 (cf R))), some (.agg (u8s 64 (cf y))), some (.agg (u8s 64 (cf S))), none, none] : List (Option Value)).getD i none) 1 (fun k => [14].getD k 0) (fun k => [15].getD k 0) (fun k => [13].getD k 0) (fun k => [14].getD k 0) (fun k => [57].getD k 0) (fun k => [64].getD k 0) (fun k => [(cf S)].getD k (fun _ => 0)) (fun k => [26].getD k 0) ?_ ?_ ?_ ?_ ?_ ?_
  · intro i hi
    rcases i with _|_|_|_|_|_|_|_|_|_|_|_|_|_|_|_|i
    · exact .inl ⟨_, rfl⟩
    · exact .inl ⟨_, rfl⟩
    · exact .inl ⟨_, rfl⟩
    · exact .inl ⟨_, rfl⟩
    · exact .inl ⟨_, rfl⟩
    · exact .inl ⟨_, rfl⟩
    · exact .inl ⟨_, rfl⟩
    · exact .inl ⟨_, rfl⟩
    · exact .inl ⟨_, rfl⟩
    · exact .inl ⟨_, rfl⟩
    · exact .inl ⟨_, rfl⟩
    · exact .inl ⟨_, rfl⟩
    · exact .inl ⟨_, rfl⟩
    · exact .inl ⟨_, rfl⟩
    · exact .inr (.inl ⟨0, by decide, rfl⟩)
    · exact .inr (.inr ⟨0, by decide, rfl⟩)
    · simp only [List.length_cons, List.length_nil] at hi; omega
  · intro k hk
    rcases k with _|k
    · exact ⟨rfl, rfl, rfl, zPoly⟩
    · omega
  · intro k hk k' hk'
    rcases k with _|k
    all_goals rcases k' with _|k'
    all_goals first | omega | exact ⟨by decide, by decide, by decide⟩
  · intro k hk
    rcases k with _|k
    · kernel_rfl
    · omega
  · intro i o c ho hc a z2 hBw hrd hpar
    rcases i with _|_|_|_|_|_|_|_|_|_|_|_|_|_|_|_|i
    · obtain rfl := Option.some.inj ho
      obtain rfl := Option.some.inj hc
      exact wp_move _ (.int .i64 p) rfl (hpar 0 _ (by kernel_rfl) (by kernel_rfl))
    · obtain rfl := Option.some.inj ho
      obtain rfl := Option.some.inj hc
      exact wp_move _ (.int .i64 p) rfl (hpar 0 _ (by kernel_rfl) (by kernel_rfl))
    · obtain rfl := Option.some.inj ho
      obtain rfl := Option.some.inj hc
      exact wp_loadB 26 _ rfl _ (hpar 7 (.pointer (some ⟨w.heap.size + 1, 0, none⟩)) (by kernel_rfl) (by kernel_rfl)) _ _ (hB.keep hBw) _ _ uPoly sPoly
    · obtain rfl := Option.some.inj ho
      obtain rfl := Option.some.inj hc
      exact wp_loadB 26 _ rfl _ (hpar 9 (.pointer (some ⟨w.heap.size + 1 + 1 + 1, 0, none⟩)) (by kernel_rfl) (by kernel_rfl)) _ _ (hE.keep hBw) _ _ uPoly sPoly
    · obtain rfl := Option.some.inj ho
      obtain rfl := Option.some.inj hc
      exact wp_callB 43 [.tmp 45, .tmp 46, .tmp 47] _ rfl [.int .i64 p, .agg (u8s 64 (cf x)), .agg (u8s 64 (cf y))] (by simp only [List.map_cons, List.map_nil, (hrd 1 _ _ 45 rfl rfl rfl (by kernel_rfl) (by kernel_rfl)), (hrd 2 _ _ 46 rfl rfl rfl (by kernel_rfl) (by kernel_rfl)), (hrd 3 _ _ 47 rfl rfl rfl (by kernel_rfl) (by kernel_rfl))]) Try.call43 _ (k2.out z2)
    · obtain rfl := Option.some.inj ho
      obtain rfl := Option.some.inj hc
      exact wp_move _ (.int .i64 p) rfl (hpar 0 _ (by kernel_rfl) (by kernel_rfl))
    · obtain rfl := Option.some.inj ho
      obtain rfl := Option.some.inj hc
      exact wp_move _ (.int .i64 p) rfl (hpar 0 _ (by kernel_rfl) (by kernel_rfl))
    · obtain rfl := Option.some.inj ho
      obtain rfl := Option.some.inj hc
      exact wp_loadB 26 _ rfl _ (hpar 8 (.pointer (some ⟨w.heap.size + 1 + 1, 0, none⟩)) (by kernel_rfl) (by kernel_rfl)) _ _ (hD.keep hBw) _ _ uPoly sPoly
    · obtain rfl := Option.some.inj ho
      obtain rfl := Option.some.inj hc
      exact wp_loadB 26 _ rfl _ (hpar 13 (.pointer (some ⟨u4.heap.size, 0, none⟩)) (by kernel_rfl) (by kernel_rfl)) _ _ (hN.keep hBw) _ _ uPoly sPoly
    · obtain rfl := Option.some.inj ho
      obtain rfl := Option.some.inj hc
      exact wp_callB 57 [.tmp 50, .tmp 51, .tmp 52, .const (.int .i64 (-1))] _ rfl [.int .i64 p, .agg (u8s 64 (cf c)), .agg (u8s 64 (cf W)), .int .i64 (-1)] (by simp only [List.map_cons, List.map_nil, (hrd 6 _ _ 50 rfl rfl rfl (by kernel_rfl) (by kernel_rfl)), (hrd 7 _ _ 51 rfl rfl rfl (by kernel_rfl) (by kernel_rfl)), (hrd 8 _ _ 52 rfl rfl rfl (by kernel_rfl) (by kernel_rfl)), eval_const]) Try.call57 _ (k3.out z2)
    · obtain rfl := Option.some.inj ho
      obtain rfl := Option.some.inj hc
      exact wp_loadB 26 _ rfl _ (hpar 9 (.pointer (some ⟨w.heap.size + 1 + 1 + 1, 0, none⟩)) (by kernel_rfl) (by kernel_rfl)) _ _ (hE.keep hBw) _ _ uPoly sPoly
    · obtain rfl := Option.some.inj ho
      obtain rfl := Option.some.inj hc
      exact wp_callB 48 [.tmp 49, .tmp 53, .tmp 54] _ rfl [.int .i64 p, .agg (u8s 64 (cf V)), .agg (u8s 64 (cf y))] (by simp only [List.map_cons, List.map_nil, (hrd 5 _ _ 49 rfl rfl rfl (by kernel_rfl) (by kernel_rfl)), (hrd 9 _ _ 53 rfl rfl rfl (by kernel_rfl) (by kernel_rfl)), (hrd 10 _ _ 54 rfl rfl rfl (by kernel_rfl) (by kernel_rfl))]) Try.call48 _ (k4.out z2)
    · obtain rfl := Option.some.inj ho
      obtain rfl := Option.some.inj hc
      exact wp_loadB 26 _ rfl _ (hpar 9 (.pointer (some ⟨w.heap.size + 1 + 1 + 1, 0, none⟩)) (by kernel_rfl) (by kernel_rfl)) _ _ (hE.keep hBw) _ _ uPoly sPoly
    · obtain rfl := Option.some.inj ho
      obtain rfl := Option.some.inj hc
      exact wp_callB 51 [.tmp 44, .tmp 48, .tmp 55, .tmp 56] _ rfl [.int .i64 p, .agg (u8s 64 (cf I)), .agg (u8s 64 (cf R)), .agg (u8s 64 (cf y))] (by simp only [List.map_cons, List.map_nil, (hrd 0 _ _ 44 rfl rfl rfl (by kernel_rfl) (by kernel_rfl)), (hrd 4 _ _ 48 rfl rfl rfl (by kernel_rfl) (by kernel_rfl)), (hrd 11 _ _ 55 rfl rfl rfl (by kernel_rfl) (by kernel_rfl)), (hrd 12 _ _ 56 rfl rfl rfl (by kernel_rfl) (by kernel_rfl))]) Try.call51 _ (k5.out z2)
    · cases hc
    · cases hc
    · cases hc
  intro vals xT hBw hc hr
  have e0 : vals 0 = .int .i64 p := hc 0 _ (by simp) rfl
  have e1 : vals 1 = .int .i64 p := hc 1 _ (by simp) rfl
  have e2 : vals 2 = .agg (u8s 64 (cf x)) := hc 2 _ (by simp) rfl
  have e3 : vals 3 = .agg (u8s 64 (cf y)) := hc 3 _ (by simp) rfl
  have e4 : vals 4 = .agg (u8s 64 (cf I)) := hc 4 _ (by simp) rfl
  have e5 : vals 5 = .int .i64 p := hc 5 _ (by simp) rfl
  have e6 : vals 6 = .int .i64 p := hc 6 _ (by simp) rfl
  have e7 : vals 7 = .agg (u8s 64 (cf c)) := hc 7 _ (by simp) rfl
  have e8 : vals 8 = .agg (u8s 64 (cf W)) := hc 8 _ (by simp) rfl
  have e9 : vals 9 = .agg (u8s 64 (cf V)) := hc 9 _ (by simp) rfl
  have e10 : vals 10 = .agg (u8s 64 (cf y)) := hc 10 _ (by simp) rfl
  have e11 : vals 11 = .agg (u8s 64 (cf R)) := hc 11 _ (by simp) rfl
  have e12 : vals 12 = .agg (u8s 64 (cf y)) := hc 12 _ (by simp) rfl
  have e13 : vals 13 = .agg (u8s 64 (cf S)) := hc 13 _ (by simp) rfl
  obtain ⟨gT0, p0, hgT0, hT0⟩ : ∃ g, vals 14 = .pointer (some ⟨g, 0, none⟩) ∧ _ ≤ g ∧ Blk xT g (u8s 64 (cf S)) 26 := hr 0 (by decide)
  simp only [List.length_cons, List.length_nil, Nat.zero_add, Nat.reduceAdd, List.replicate, putAll, if_true, Act.put, List.setIfInBounds_toArray, List.set_cons_zero, List.set_cons_succ, e0, e1, e2, e3, e4, e5, e6, e7, e8, e9, e10, e11, e12, e13, p0]
  replace hA := hA.keep hBw
  replace hB := hB.keep hBw
  replace hD := hD.keep hBw
  replace hE := hE.keep hBw
  replace hZ := hZ.keep hBw
  replace hN := hN.keep hBw
  replace hb := below_step hb hBw
  clear hc hr e0 e1 e2 e3 e4 e5 e6 e7 e8 e9 e10 e11 e12 e13 p0
  clear hBw
  go_wp2_with ((with_reducible refine wpl_guard ?_); first | (refine wpl_load_arr rfl 26 _ rfl _ rfl _ _ hB _ _ uPoly sPoly ?_) | (refine wpl_load_arr rfl 26 _ rfl _ rfl _ _ hT0 _ _ uPoly sPoly ?_))
  refine (k6.out _).mono ?_
  rintro e u5 ⟨rfl, hn⟩
  replace hA := hA.keep hn
  replace hB := hB.keep hn
  replace hD := hD.keep hn
  replace hE := hE.keep hn
  replace hZ := hZ.keep hn
  replace hN := hN.keep hn
  replace hb := below_step hb hn
  clear hn
  go_upto_region 11 with ((with_reducible refine wpl_guard ?_); first | (refine wpl_new1 26 zPoly sPoly _ _ rfl rfl rfl rfl rfl rfl _ rfl ?_; intro w5 hn hN2; replace hA := hA.keep hn; replace hB := hB.keep hn; replace hD := hD.keep hn; replace hE := hE.keep hn; replace hZ := hZ.keep hn; replace hN := hN.keep hn; replace hb := below_step hb hn; clear hn))
  go_wp2_with ((with_reducible refine wpl_guard ?_); first | (refine wpl_load_arr rfl 26 _ rfl _ rfl _ _ hN _ _ uPoly sPoly ?_) | (refine wpl_load_arr rfl 26 _ rfl _ rfl _ _ hN2 _ _ uPoly sPoly ?_))
  refine (k7.out _).mono ?_
  rintro e u6 ⟨rfl, hn⟩
  replace hA := hA.keep hn
  replace hB := hB.keep hn
  replace hD := hD.keep hn
  replace hE := hE.keep hn
  replace hZ := hZ.keep hn
  replace hN := hN.keep hn
  replace hN2 := hN2.keep hn
  replace hb := below_step hb hn
  clear hn
  go_wp2_with ((with_reducible refine wpl_guard ?_); first | (refine wpl_store_arr rfl 26 _ _ rfl _ rfl _ rfl _ _ hZ sPoly (by simp only [u8s_size]) (u8s_oneCell _ _) ?_))
  exact bodyPost_ret (res_ct (x := .int .i64 0) rfl rfl (hZ.setRow_same (cs := u8s 64 (cf M))) uPoly sPoly rfl) rfl ⟨rfl, below_setRow hb (by omega) _⟩
end Go.Proofs.Ytionaenmjndncaa

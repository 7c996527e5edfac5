/- Walks: inverses modulo a modulus, on both sides. -/
import Derived.Test.YtionaenmjndncaaE3
set_option linter.unusedVariables false
set_option linter.unusedSimpArgs false
namespace Go.Proofs.Ytionaenmjndncaa
open Go.RowKit

theorem below_lit {B g : Nat} {w w0 w1 : World} {o : Obj} (h : Below B w w0) (hB : B ≤ w0.heap.size) (hg : g = w0.heap.size) (hn : Below g (w0.alloc o) w1) : Below B w w1 :=
  (h.alloc hB o).trans (hn.mono (by omega))
theorem Blk.lit {g k : Nat} {cs : Array Value} {t : TypeId} {w0 w1 : World} {o : Obj} (h : Blk w0 k cs t) (hg : g = w0.heap.size) (hn : Below g (w0.alloc o) w1) : Blk w1 k cs t :=
  (h.alloc o).below hn (by have := h.lt; omega)
theorem Mon.ne {m : List Int} (h : Mon m) : m ≠ [] := fun e => by have := h.2.1; rw [e] at this; simp at this
theorem arr_zero_ite (b c : Bool) (f : Nat → Int) (h : (b && c) = true) : u8s 64 (if b then (if c then f else fun _ => 0) else fun _ => 0) = u8s 64 f := by cases b <;> cases c <;> first | rfl | cases h
/-- What InverseModulo gives. -/
def invA (b c d : Bool) (M : List Int) : Nat → Int := if b then (if c then (if d then cf M else fun _ => 0) else fun _ => 0) else fun _ => 0
def invC (b c d : Bool) : Int := if b then (if c then (if d then 0 else 4) else 2) else 1

set_option maxRecDepth 20000 in
set_option maxHeartbeats 2000000 in
theorem specInverseModulo_any (f g : Nat → Int) (p : Int) (b c d : Bool) (M : List Int) (w : World) (hf : By f) (hg : By g) (hb : Good p [g, f] ↔ b = true) (hc : decide (Mon (mkp 64 g)) = c) (hd : decide ((bez p (mkp 64 f) (mkp 64 g)).1 = [1]) = d) (hM : rst p (bez p (mkp 64 f) (mkp 64 g)).2.1 (mkp 64 g) = M) :
    Calls Try.prog 20 #[.int .i64 p, .agg (u8s 64 f), .agg (u8s 64 g)] w fun e w' => e = .returned (.tuple #[.agg (u8s 64 (invA b c d M)), .int .i64 (invC b c d)]) ∧ Below w.heap.size w w' := by
  have hdH := Lib.hid hd
  have hMH := Lib.hid hM
  clear hd hM
  have hfH := Lib.hid hf
  clear hf
  have hgH := Lib.hid hg
  clear hg
  have hbH := Lib.hid hb
  have hcH := Lib.hid hc
  clear hb hc
  obtain ⟨hb, hA, hB, hZ⟩ := boxes3 w (u8s 64 f) (u8s 64 g) (u8s 64 fun _ => 0) 26 26 26
  go_enter Try.func20, Try.ntmps20
  go_wp2_with ((with_reducible refine wpl_guard ?_); first | (refine wpl_alloc_arr rfl 26 rfl _ zPoly ?_) | (refine wpl_load_arr rfl 26 _ rfl _ rfl _ _ hA _ _ uPoly sPoly ?_) | (refine wpl_load_arr rfl 26 _ rfl _ rfl _ _ hB _ _ uPoly sPoly ?_) | (refine wpl_buildSlice_polys rfl 75 26 1 _ rfl Try.underlying75 sPoly zPoly [f] rfl (by decide) (by decide) rfl ?_))
  refine (l02Modulus_lit g [f] 1 64 rfl rfl (by omega) p _ _ _ (Blk.newAt (by simp) _ _) hgH.out (by1 hfH.out) b c hbH.out hcH.out).mono ?_
  rintro e w1 ⟨rfl, hn⟩
  replace hA := (hA.alloc _).keep hn
  replace hB := (hB.alloc _).keep hn
  replace hZ := (hZ.alloc _).keep hn
  replace hb := below_step hb (below_step (below_new _ _) hn)
  clear hn
  cases b
  · go_wp2_with ((with_reducible refine wpl_guard ?_); first | (refine wpl_build_zero rfl 26 64 5 rfl _ uPoly sByte zPoly ?_) | (refine wpl_store_arr rfl 26 _ _ rfl _ rfl _ rfl _ _ hZ sPoly (by simp only [u8s_size]) (u8s_oneCell _ _) ?_))
    exact bodyPost_ret (res_ct (x := .int .i64 1) rfl rfl (hZ.setRow_same (cs := u8s 64 fun _ => 0)) uPoly sPoly rfl) rfl ⟨rfl, below_setRow hb (by omega) _⟩
  cases c
  · go_wp2_with ((with_reducible refine wpl_guard ?_); first | (refine wpl_build_zero rfl 26 64 5 rfl _ uPoly sByte zPoly ?_) | (refine wpl_store_arr rfl 26 _ _ rfl _ rfl _ rfl _ _ hZ sPoly (by simp only [u8s_size]) (u8s_oneCell _ _) ?_))
    exact bodyPost_ret (res_ct (x := .int .i64 2) rfl rfl (hZ.setRow_same (cs := u8s 64 fun _ => 0)) uPoly sPoly rfl) rfl ⟨rfl, below_setRow hb (by omega) _⟩
  have hG := hbH.out.2 rfl
  have hx : P64 p (mkp 64 f) := hG.p64 (f := f) (by simp) hfH.out
  have hy : P64 p (mkp 64 g) := hG.p64 (f := g) (by simp) hgH.out
  have hm := of_decide_eq_true hcH.out
  have hxH := Lib.hid hx
  have hyH := Lib.hid hy
  have hneH := Lib.hid hm.ne
  clear hG hm
  have hu : ∀ w, Calls Try.prog 42 #[.int .i64 p, .agg (u8s 64 f), .agg (u8s 64 g)] w fun e w' => e = .returned (.bool d) ∧ Below w.heap.size w w' := fun w => by
    have := l02Unit_any _ _ p w hx hy hneH.out d hdH.out
    rwa [← u8s_mkp, ← u8s_mkp] at this
  have hi : ∀ w, d = true → Calls Try.prog 43 #[.int .i64 p, .agg (u8s 64 f), .agg (u8s 64 g)] w fun e w' => e = .returned (.agg (u8s 64 (cf M))) ∧ Below w.heap.size w w' := fun w hd => by
    have := l02Inverse_any _ _ p w hx hy hneH.out
    rwa [← u8s_mkp, ← u8s_mkp, inv_eq hx.pr hx.po hy.po hneH.out (of_decide_eq_true (hdH.out.trans hd)), hMH.out] at this
  have huH := Lib.hid hu
  have hiH := Lib.hid hi
  clear hu hi hx hy
  go_wp2_with ((with_reducible refine wpl_guard ?_); first | (refine wpl_load_arr rfl 26 _ rfl _ rfl _ _ hA _ _ uPoly sPoly ?_) | (refine wpl_load_arr rfl 26 _ rfl _ rfl _ _ hB _ _ uPoly sPoly ?_))
  refine (huH.out _).mono ?_
  rintro e u1 ⟨rfl, hn⟩
  replace hA := hA.keep hn
  replace hB := hB.keep hn
  replace hZ := hZ.keep hn
  replace hb := below_step hb hn
  clear hn
  cases d
  · go_wp2_with ((with_reducible refine wpl_guard ?_); first | (refine wpl_build_zero rfl 26 64 5 rfl _ uPoly sByte zPoly ?_) | (refine wpl_store_arr rfl 26 _ _ rfl _ rfl _ rfl _ _ hZ sPoly (by simp only [u8s_size]) (u8s_oneCell _ _) ?_))
    exact bodyPost_ret (res_ct (x := .int .i64 4) rfl rfl (hZ.setRow_same (cs := u8s 64 fun _ => 0)) uPoly sPoly rfl) rfl ⟨rfl, below_setRow hb (by omega) _⟩
  go_wp2_with ((with_reducible refine wpl_guard ?_); first | (refine wpl_load_arr rfl 26 _ rfl _ rfl _ _ hA _ _ uPoly sPoly ?_) | (refine wpl_load_arr rfl 26 _ rfl _ rfl _ _ hB _ _ uPoly sPoly ?_))
  refine (hiH.out _ trivial).mono ?_
  rintro e u2 ⟨rfl, hn⟩
  replace hA := hA.keep hn
  replace hB := hB.keep hn
  replace hZ := hZ.keep hn
  replace hb := below_step hb hn
  clear hn
  go_wp2_with ((with_reducible refine wpl_guard ?_); first | (refine wpl_store_arr rfl 26 _ _ rfl _ rfl _ rfl _ _ hZ sPoly (by simp only [u8s_size]) (u8s_oneCell _ _) ?_))
  exact bodyPost_ret (res_ct (x := .int .i64 0) rfl rfl (hZ.setRow_same (cs := u8s 64 (cf M))) uPoly sPoly rfl) rfl ⟨rfl, below_setRow hb (by omega) _⟩

set_option maxRecDepth 20000 in
set_option maxHeartbeats 2000000 in
theorem implInverseModulo_any (f g : Nat → Int) (p : Int) (b c d : Bool) (M : List Int) (w : World) (hf : By f) (hg : By g) (hb : Good p [g, f] ↔ b = true) (hc : decide (Mon (mkp 64 g)) = c) (hd : decide ((bez p (mkp 64 f) (mkp 64 g)).1 = [1]) = d) (hM : rst p (bez p (mkp 64 f) (mkp 64 g)).2.1 (mkp 64 g) = M) :
    Calls Try.prog 21 #[.int .i64 p, .agg (u8s 64 f), .agg (u8s 64 g)] w fun e w' => e = .returned (.tuple #[.agg (u8s 64 (invA b c d M)), .int .i64 (invC b c d)]) ∧ Below w.heap.size w w' := by
  have hdH := Lib.hid hd
  have hMH := Lib.hid hM
  clear hd hM
  have hfH := Lib.hid hf
  clear hf
  have hgH := Lib.hid hg
  clear hg
  have hbH := Lib.hid hb
  have hcH := Lib.hid hc
  clear hb hc
  obtain ⟨hb, hA, hB, hZ⟩ := boxes3 w (u8s 64 f) (u8s 64 g) (u8s 64 fun _ => 0) 26 26 26
  go_enter Try.func21, Try.ntmps21
  go_wp2_with ((with_reducible refine wpl_guard ?_); first | (refine wpl_alloc_arr rfl 26 rfl _ zPoly ?_) | (refine wpl_load_arr rfl 26 _ rfl _ rfl _ _ hA _ _ uPoly sPoly ?_) | (refine wpl_load_arr rfl 26 _ rfl _ rfl _ _ hB _ _ uPoly sPoly ?_) | (refine wpl_buildSlice_polys rfl 75 26 1 _ rfl Try.underlying75 sPoly zPoly [f] rfl (by decide) (by decide) rfl ?_))
  refine (modulusCode_lit g [f] 1 64 rfl rfl (by omega) (by omega) p _ _ (Blk.newAt (by simp) _ _) hgH.out (by1 hfH.out) b c hbH.out hcH.out).mono ?_
  rintro e w1 ⟨rfl, hn⟩
  replace hb := below_lit hb (by simp only [size_alloc]; omega) (by simp) hn
  replace hA := hA.lit (by simp) hn
  replace hB := hB.lit (by simp) hn
  replace hZ := hZ.lit (by simp) hn
  clear hn
  cases b
  · go_wp2_with ((with_reducible refine wpl_guard ?_); first | (refine wpl_build_zero rfl 26 64 5 rfl _ uPoly sByte zPoly ?_) | (refine wpl_store_arr rfl 26 _ _ rfl _ rfl _ rfl _ _ hZ sPoly (by simp only [u8s_size]) (u8s_oneCell _ _) ?_))
    exact bodyPost_ret (res_ct (x := .int .i64 1) rfl rfl (hZ.setRow_same (cs := u8s 64 fun _ => 0)) uPoly sPoly rfl) rfl ⟨rfl, below_setRow hb (by omega) _⟩
  cases c
  · go_wp2_with ((with_reducible refine wpl_guard ?_); first | (refine wpl_build_zero rfl 26 64 5 rfl _ uPoly sByte zPoly ?_) | (refine wpl_store_arr rfl 26 _ _ rfl _ rfl _ rfl _ _ hZ sPoly (by simp only [u8s_size]) (u8s_oneCell _ _) ?_))
    exact bodyPost_ret (res_ct (x := .int .i64 2) rfl rfl (hZ.setRow_same (cs := u8s 64 fun _ => 0)) uPoly sPoly rfl) rfl ⟨rfl, below_setRow hb (by omega) _⟩
  have hG := hbH.out.2 rfl
  have hx : P64 p (mkp 64 f) := hG.p64 (f := f) (by simp) hfH.out
  have hy : P64 p (mkp 64 g) := hG.p64 (f := g) (by simp) hgH.out
  have hm := of_decide_eq_true hcH.out
  have hxH := Lib.hid hx
  have hyH := Lib.hid hy
  have hneH := Lib.hid hm.ne
  clear hG hm
  obtain ⟨q1, q2, q3⟩ := bez_P64 hx hy (Or.inr hneH.out)
  have hbz := fun va vb w ha hb => bezout_any va vb _ _ p w hx.pr ha hb hx.po hy.po (Or.inr hneH.out) hx.le hy.le
  obtain ⟨D1, hD1⟩ : ∃ D, (bez p (mkp 64 f) (mkp 64 g)).1 = D := ⟨_, rfl⟩
  obtain ⟨D2, hD2⟩ : ∃ D, (bez p (mkp 64 f) (mkp 64 g)).2.1 = D := ⟨_, rfl⟩
  obtain ⟨D3, hD3⟩ : ∃ D, (bez p (mkp 64 f) (mkp 64 g)).2.2 = D := ⟨_, rfl⟩
  have hd2 := hdH.out
  have hM2 := hMH.out
  rw [hD1, hD2, hD3] at hbz
  rw [hD1] at hd2 q1
  rw [hD2] at hM2 q2
  have hMP : P64 p M := hM2 ▸ rst_P64 q2 hy hneH.out
  have hbz2 : ∀ (va vb : Value) (w : World), IsRow w va (mkp 64 f) → IsRow w vb (mkp 64 g) → Calls Try.prog 45 #[.int .i64 p, va, vb] w fun e w' => ∃ v, e = .returned v ∧ (∃ v1 v2 v3, v = .tuple #[v1, v2, v3] ∧ IsRow w' v1 D1 ∧ IsRow w' v2 D2 ∧ IsRow w' v3 D3) ∧ Below w.heap.size w w' := fun va vb w ha hb => (hbz va vb w ha hb).mono fun _ _ ⟨v1, v2, v3, k1, k2, k3, k4, k5⟩ => ⟨_, k1, ⟨v1, v2, v3, rfl, k2, k3, k4⟩, k5⟩
  have hbzH := Lib.hid hbz2
  have hdH2 := Lib.hid hd2
  have hrs := Lib.hid (fun va vm w (ha : IsRow w va D2) (hm : IsRow w vm (mkp 64 g)) => hM2 ▸ rest_any va vm D2 (mkp 64 g) p w hx.pr ha hm q2.po hy.po hneH.out (by have := q2.le; omega) (by have := hy.le; omega))
  have htd := Lib.hid (fun v w (h : IsRow w v M) => told_any v M w h (fun i => By_of_Po hx.pr hMP.po i))
  have hML : M.length ≤ 64 := hMP.le
  rw [show toldF M = cf M from if_pos hML, show toldC M = 0 from if_pos hML] at htd
  clear hbz hbz2 hx hy q1 q2 q3 hD1 hD2 hD3 hd2 hM2 hMP hML hdH hMH
  go_upto_region 4 with (fail)
  refine gen_region (ws := w) (w := _) (B := w.heap.size) (by kernel_rfl) (by kernel_rfl) (by kernel_rfl) (by kernel_rfl)
      (fun i => ([fun v _ => v = .int .i64 p, fun v _ => v = .agg (u8s 64 f), fun v w => IsRow w v (mkp 64 f), fun v _ => v = .agg (u8s 64 g), fun v w => IsRow w v (mkp 64 g), fun v w => ∃ v1 v2 v3, v = .tuple #[v1, v2, v3] ∧ IsRow w v1 (D1) ∧ IsRow w v2 (D2) ∧ IsRow w v3 (D3), fun v w => ∃ v1 v2 v3, v = .tuple #[v1, v2, v3] ∧ IsRow w v1 (D1) ∧ IsRow w v2 (D2) ∧ IsRow w v3 (D3), fun v w => IsRow w v (D1), fun v w => IsRow w v (D2), fun v w => IsRow w v (D3), fun v w => IsRow w v (D1), fun v w => IsRow w v (D2), fun v w => IsRow w v (D3)] : List (Value → World → Prop)).getD i (fun _ _ => True))
      (fun i => ([true, true, false, true, false, false, false, false, false, false, false, false, false] : List Bool).getD i true)
      0 (fun k => [].getD k 0) (fun k => [].getD k 0) (fun k => [].getD k 0) (fun k => [].getD k 0) (fun k => [].getD k 0) (fun k => [].getD k 0) (fun k => [].getD k (fun _ => 0)) (fun k => [].getD k (fun _ => 0)) (fun k => [].getD k 0) hb (Nat.le_refl _)
      (fun w' => Blk w' (w.heap.size) (u8s 64 f) 26 ∧ Blk w' (w.heap.size + 1) (u8s 64 g) 26 ∧ True) ⟨hA.drew, hB.drew, trivial⟩ (fun w1 w2 h hb => ⟨h.1.keep hb, h.2.1.keep hb, trivial⟩) ?_ ?_ ?_ ?_ ?_ ?_ ?_
  · exact fun k hk => absurd hk (by omega)
  · intro i v w1 w2 h hb
    rcases i with _|_|_|_|_|_|_|_|_|_|_|_|_|i
    · exact h
    · exact h
    · exact (show IsRow w1 v (mkp 64 f) from h).below hb
    · exact h
    · exact (show IsRow w1 v (mkp 64 g) from h).below hb
    · obtain ⟨v1, v2, v3, e, h1, h2, h3⟩ := h; exact ⟨v1, v2, v3, e, h1.below hb, h2.below hb, h3.below hb⟩
    · obtain ⟨v1, v2, v3, e, h1, h2, h3⟩ := h; exact ⟨v1, v2, v3, e, h1.below hb, h2.below hb, h3.below hb⟩
    · exact (show IsRow w1 v (D1) from h).below hb
    · exact (show IsRow w1 v (D2) from h).below hb
    · exact (show IsRow w1 v (D3) from h).below hb
    · exact (show IsRow w1 v (D1) from h).below hb
    · exact (show IsRow w1 v (D2) from h).below hb
    · exact (show IsRow w1 v (D3) from h).below hb
    · exact h
  · exact fun k hk => absurd hk (by omega)
  · exact fun k hk => absurd hk (by omega)
  · kernel_rfl
  · intro i o ho hz a w2 hBs hSx hBl hrd hpar
    rcases i with _|_|_|_|_|_|_|_|_|_|_|_|_|i
    · obtain rfl := Option.some.inj ho
      have e0 : a.eval (.tmp 0) = .int .i64 p := hpar 0 _ (by kernel_rfl) (by kernel_rfl)
      exact wpv_of (wp_move _ _ rfl e0) (fun _ _ => rfl)
    · obtain rfl := Option.some.inj ho
      exact wpv_of (wp_loadB 26 _ rfl _ (hpar 4 (.pointer (some ⟨w.heap.size, 0, none⟩)) (by kernel_rfl) (by kernel_rfl)) _ _ hSx.1 _ _ uPoly sPoly) (fun _ _ => rfl)
    · obtain rfl := Option.some.inj ho
      obtain ⟨_, e23⟩ : ∃ _w : World, a.eval (.tmp 23) = .agg (u8s 64 f) := (hrd 1 _ 23 rfl rfl (by kernel_rfl) (by kernel_rfl) (by decide)).1
      exact wpv_call 31 [.tmp 23] _ rfl [.agg (u8s 64 f)] (by simp only [List.map_cons, List.map_nil, e23]) Try.call31 (rowOf_any f w2 hfH.out.on)
    · obtain rfl := Option.some.inj ho
      exact wpv_of (wp_loadB 26 _ rfl _ (hpar 5 (.pointer (some ⟨w.heap.size + 1, 0, none⟩)) (by kernel_rfl) (by kernel_rfl)) _ _ hSx.2.1 _ _ uPoly sPoly) (fun _ _ => rfl)
    · obtain rfl := Option.some.inj ho
      obtain ⟨_, e25⟩ : ∃ _w : World, a.eval (.tmp 25) = .agg (u8s 64 g) := (hrd 3 _ 25 rfl rfl (by kernel_rfl) (by kernel_rfl) (by decide)).1
      exact wpv_call 31 [.tmp 25] _ rfl [.agg (u8s 64 g)] (by simp only [List.map_cons, List.map_nil, e25]) Try.call31 (rowOf_any g w2 hgH.out.on)
    · obtain rfl := Option.some.inj ho
      obtain ⟨_, e22⟩ : ∃ _w : World, a.eval (.tmp 22) = .int .i64 p := (hrd 0 _ 22 rfl rfl (by kernel_rfl) (by kernel_rfl) (by decide)).1
      have h24 : (fun v w => IsRow w v (mkp 64 f)) (a.eval (.tmp 24)) w2 := (hrd 2 _ 24 rfl rfl (by kernel_rfl) (by kernel_rfl) (by decide)).2 rfl
      generalize e24 : a.eval (.tmp 24) = v24 at h24
      have h26 : (fun v w => IsRow w v (mkp 64 g)) (a.eval (.tmp 26)) w2 := (hrd 4 _ 26 rfl rfl (by kernel_rfl) (by kernel_rfl) (by decide)).2 rfl
      generalize e26 : a.eval (.tmp 26) = v26 at h26
      exact wpv_call 45 [.tmp 22, .tmp 24, .tmp 26] _ rfl [.int .i64 p, v24, v26] (by simp only [List.map_cons, List.map_nil, e22, e24, e26]) Try.call45 (hbzH.out _ _ w2 h24 h26)
    · obtain rfl := Option.some.inj ho
      have h27 : (fun v w => ∃ v1 v2 v3, v = .tuple #[v1, v2, v3] ∧ IsRow w v1 (D1) ∧ IsRow w v2 (D2) ∧ IsRow w v3 (D3)) (a.eval (.tmp 27)) w2 := (hrd 5 _ 27 rfl rfl (by kernel_rfl) (by kernel_rfl) (by decide)).2 rfl
      generalize e27 : a.eval (.tmp 27) = v27 at h27
      exact wpv_of (wp_move _ _ rfl e27) (fun w' hb => by have h := h27; obtain ⟨v1, v2, v3, e, h1, h2, h3⟩ := h; exact ⟨v1, v2, v3, e, h1.below hb, h2.below hb, h3.below hb⟩)
    · obtain rfl := Option.some.inj ho
      have h21 : (fun v w => ∃ v1 v2 v3, v = .tuple #[v1, v2, v3] ∧ IsRow w v1 (D1) ∧ IsRow w v2 (D2) ∧ IsRow w v3 (D3)) (a.eval (.tmp 21)) w2 := (hrd 6 _ 21 rfl rfl (by kernel_rfl) (by kernel_rfl) (by decide)).2 rfl
      generalize e21 : a.eval (.tmp 21) = v21 at h21
      obtain ⟨q1, q2, q3, eq, k1, k2, k3⟩ := h21
      exact wpv_of (wp_extract _ 0 #[q1, q2, q3] _ rfl (e21.trans eq) rfl) (fun w' hb => k1.below hb)
    · obtain rfl := Option.some.inj ho
      have h21 : (fun v w => ∃ v1 v2 v3, v = .tuple #[v1, v2, v3] ∧ IsRow w v1 (D1) ∧ IsRow w v2 (D2) ∧ IsRow w v3 (D3)) (a.eval (.tmp 21)) w2 := (hrd 6 _ 21 rfl rfl (by kernel_rfl) (by kernel_rfl) (by decide)).2 rfl
      generalize e21 : a.eval (.tmp 21) = v21 at h21
      obtain ⟨q1, q2, q3, eq, k1, k2, k3⟩ := h21
      exact wpv_of (wp_extract _ 1 #[q1, q2, q3] _ rfl (e21.trans eq) rfl) (fun w' hb => k2.below hb)
    · obtain rfl := Option.some.inj ho
      have h21 : (fun v w => ∃ v1 v2 v3, v = .tuple #[v1, v2, v3] ∧ IsRow w v1 (D1) ∧ IsRow w v2 (D2) ∧ IsRow w v3 (D3)) (a.eval (.tmp 21)) w2 := (hrd 6 _ 21 rfl rfl (by kernel_rfl) (by kernel_rfl) (by decide)).2 rfl
      generalize e21 : a.eval (.tmp 21) = v21 at h21
      obtain ⟨q1, q2, q3, eq, k1, k2, k3⟩ := h21
      exact wpv_of (wp_extract _ 2 #[q1, q2, q3] _ rfl (e21.trans eq) rfl) (fun w' hb => k3.below hb)
    · obtain rfl := Option.some.inj ho
      have h28 : (fun v w => IsRow w v (D1)) (a.eval (.tmp 28)) w2 := (hrd 7 _ 28 rfl rfl (by kernel_rfl) (by kernel_rfl) (by decide)).2 rfl
      generalize e28 : a.eval (.tmp 28) = v28 at h28
      exact wpv_of (wp_assign _ _ rfl e28) (fun w' hb => h28.below hb)
    · obtain rfl := Option.some.inj ho
      have h29 : (fun v w => IsRow w v (D2)) (a.eval (.tmp 29)) w2 := (hrd 8 _ 29 rfl rfl (by kernel_rfl) (by kernel_rfl) (by decide)).2 rfl
      generalize e29 : a.eval (.tmp 29) = v29 at h29
      exact wpv_of (wp_assign _ _ rfl e29) (fun w' hb => h29.below hb)
    · obtain rfl := Option.some.inj ho
      have h30 : (fun v w => IsRow w v (D3)) (a.eval (.tmp 30)) w2 := (hrd 9 _ 30 rfl rfl (by kernel_rfl) (by kernel_rfl) (by decide)).2 rfl
      generalize e30 : a.eval (.tmp 30) = v30 at h30
      exact wpv_of (wp_assign _ _ rfl e30) (fun w' hb => h30.below hb)
    · simp at ho
  intro vals xE hBx hSx hS0 hcs hrs
  obtain ⟨hBl, hc0⟩ := hS0 rfl
  have e0 : vals 0 = .int .i64 p := hc0 0 (by simp)
  have e1 : vals 1 = .agg (u8s 64 f) := hc0 1 (by simp)
  have cE2 : (fun v w => IsRow w v (mkp 64 f)) (vals 2) xE := hc0 2 (by simp)
  generalize ev2 : vals 2 = uE2 at cE2
  have e3 : vals 3 = .agg (u8s 64 g) := hc0 3 (by simp)
  have cE4 : (fun v w => IsRow w v (mkp 64 g)) (vals 4) xE := hc0 4 (by simp)
  generalize ev4 : vals 4 = uE4 at cE4
  have cE5 : (fun v w => ∃ v1 v2 v3, v = .tuple #[v1, v2, v3] ∧ IsRow w v1 (D1) ∧ IsRow w v2 (D2) ∧ IsRow w v3 (D3)) (vals 5) xE := hc0 5 (by simp)
  generalize ev5 : vals 5 = uE5 at cE5
  have cE6 : (fun v w => ∃ v1 v2 v3, v = .tuple #[v1, v2, v3] ∧ IsRow w v1 (D1) ∧ IsRow w v2 (D2) ∧ IsRow w v3 (D3)) (vals 6) xE := hc0 6 (by simp)
  generalize ev6 : vals 6 = uE6 at cE6
  have cE7 : (fun v w => IsRow w v (D1)) (vals 7) xE := hc0 7 (by simp)
  generalize ev7 : vals 7 = uE7 at cE7
  have cE8 : (fun v w => IsRow w v (D2)) (vals 8) xE := hc0 8 (by simp)
  generalize ev8 : vals 8 = uE8 at cE8
  have cE9 : (fun v w => IsRow w v (D3)) (vals 9) xE := hc0 9 (by simp)
  generalize ev9 : vals 9 = uE9 at cE9
  have cE10 : (fun v w => IsRow w v (D1)) (vals 10) xE := hc0 10 (by simp)
  generalize ev10 : vals 10 = uE10 at cE10
  have cE11 : (fun v w => IsRow w v (D2)) (vals 11) xE := hc0 11 (by simp)
  generalize ev11 : vals 11 = uE11 at cE11
  have cE12 : (fun v w => IsRow w v (D3)) (vals 12) xE := hc0 12 (by simp)
  generalize ev12 : vals 12 = uE12 at cE12
  simp only [List.length_cons, List.length_nil, Nat.zero_add, Nat.reduceAdd, List.replicate, putAll, if_true, Act.put, List.setIfInBounds_toArray, List.set_cons_zero, List.set_cons_succ, e0, e1, ev2, e3, ev4, ev5, ev6, ev7, ev8, ev9, ev10, ev11, ev12]
  replace hZ := hZ.keep hBl
  replace hA := hSx.1
  replace hB := hSx.2.1
  clear hcs hrs hS0 hSx e0 e1 ev2 e3 ev4 ev5 ev6 ev7 ev8 ev9 ev10 ev11 ev12 hc0
  have k1 := Lib.hid cE10
  have k2 := Lib.hid cE11
  clear hb hBl cE10 cE11 cE2 cE4 cE5 cE6 cE7 cE8 cE9 cE12
  go_wp2_with fail
  refine (isOne_any _ _ _ k1.out d hdH2.out).mono ?_
  rintro e u1 ⟨rfl, rfl⟩
  cases d
  · go_wp2_with ((with_reducible refine wpl_guard ?_); first | (refine wpl_build_zero rfl 26 64 5 rfl _ uPoly sByte zPoly ?_) | (refine wpl_store_arr rfl 26 _ _ rfl _ rfl _ rfl _ _ hZ sPoly (by simp only [u8s_size]) (u8s_oneCell _ _) ?_))
    exact bodyPost_ret (res_ct (x := .int .i64 4) rfl rfl (hZ.setRow_same (cs := u8s 64 fun _ => 0)) uPoly sPoly rfl) rfl ⟨rfl, below_setRow hBx (by omega) _⟩
  go_wp2_with ((with_reducible refine wpl_guard ?_); first | (refine wpl_load_arr rfl 26 _ rfl _ rfl _ _ hB _ _ uPoly sPoly ?_))
  refine (rowOf_any g _ hgH.out.on).mono ?_
  rintro e u2 ⟨v2, rfl, hr, hn⟩
  have k3 := Lib.hid hr
  clear hr
  replace hZ := hZ.keep hn
  replace k2 := Lib.hid (k2.out.below hn)
  replace hBx := below_step hBx hn
  clear hn
  go_wp2_with fail
  refine (hrs.out _ _ _ k2.out k3.out).mono ?_
  rintro e u7 ⟨v7, rfl, hr, hn⟩
  have k4 := Lib.hid hr
  clear hr
  replace hZ := hZ.keep hn
  replace hBx := below_step hBx hn
  clear hn
  go_wp2_with fail
  refine (htd.out _ _ k4.out).mono ?_
  rintro e u8 ⟨rfl, hn⟩
  replace hZ := hZ.keep hn
  replace hBx := below_step hBx hn
  clear hn
  go_wp2_with ((with_reducible refine wpl_guard ?_); first | (refine wpl_store_arr rfl 26 _ _ rfl _ rfl _ rfl _ _ hZ sPoly (by simp only [u8s_size]) (u8s_oneCell _ _) ?_))
  exact bodyPost_ret (res_ct (x := .int .i64 0) rfl rfl (hZ.setRow_same (cs := u8s 64 (cf M))) uPoly sPoly rfl) rfl ⟨rfl, below_setRow hBx (by omega) _⟩

theorem InverseModulo_pair (p : Int) (f g : Nat → Int) (_ : (Lit.int .i64 p).wf = true) (hf : By f) (hg : By g) : ∃ (r0 : Nat → Int) (r1 : Int),
    (∀ w, Calls Try.prog 20 #[.int .i64 p, .agg (u8s 64 f), .agg (u8s 64 g)] w fun e w' => e = .returned (.tuple #[.agg (u8s 64 r0), .int .i64 r1]) ∧ Below w.heap.size w w') ∧
    (∀ w, Calls Try.prog 21 #[.int .i64 p, .agg (u8s 64 f), .agg (u8s 64 g)] w fun e w' => e = .returned (.tuple #[.agg (u8s 64 r0), .int .i64 r1]) ∧ Below w.heap.size w w') := by
  obtain ⟨b, hb⟩ := dec_true (Good p [g, f])
  exact ⟨_, _, fun w => specInverseModulo_any f g p b _ _ _ w hf hg hb rfl rfl rfl, fun w => implInverseModulo_any f g p b _ _ _ w hf hg hb rfl rfl rfl⟩
end Go.Proofs.Ytionaenmjndncaa

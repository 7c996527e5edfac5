/- Walks: the order, the program's side. -/
import Derived.Test.YtojkngdabejjdaaO4
set_option linter.unusedVariables false
set_option linter.unusedSimpArgs false
namespace Go.Proofs.Ytojkngdabejjdaa
open Go.RowKit
set_option maxHeartbeats 400000 in
theorem gcd_any (va vb : Value) (xs ys : List Int) (p : Int) (w : World) (hp : Pr p) (ha : IsRow w va xs) (hb : IsRow w vb ys) (hxa : Po p xs) (hxb : Po p ys) (hne : xs ≠ [] ∨ ys ≠ [])
    (la : xs.length ≤ 64) (lb : ys.length ≤ 64) : Calls Try.prog 12 #[.int .i64 p, va, vb] w fun e w' => ∃ v, e = .returned v ∧ IsRow w' v (bez p xs ys).1 ∧ Below w.heap.size w w' := by
  have h1 := Lib.hid (fun w (h1 : IsRow w va xs) (h2 : IsRow w vb ys) => bezout_any va vb xs ys p w hp h1 h2 hxa hxb hne la lb)
  have haH := Lib.hid ha
  have hbH := Lib.hid hb
  clear hp ha hb hxa hxb hne la lb
  go_enter Try.func12, Try.ntmps12
  go_wp2_with fail
  refine (h1.out _ haH.out hbH.out).mono ?_
  rintro e w1 ⟨v1, v2, v3, rfl, hr, _, _, hn⟩
  have hrH := Lib.hid hr
  clear hr
  go_wp2_with fail
  go_ret
  exact ⟨_, rfl, hrH.out, hn⟩
theorem calls_get {P : Program} {f : FuncId} {args : Array Value} {w : World} {R : Ending → World → Prop} (h : Calls P f args w R) : ∃ e w', R e w' := by
  obtain ⟨e, w', _, h, _⟩ := h []
  exact ⟨e, w', h⟩
theorem lgs_at1 {p : Int} (hp : Pr p) {a m : List Int} (ha : Po p a) (hm : Po p m) (h2 : 2 ≤ m.length) : lgs p (rst p a m) m 1 = rst p a m := by
  have hne : m ≠ [] := fun e => by rw [e] at h2; simp at h2
  obtain ⟨h3, h4⟩ := lgs_ok (base := rst p a m) hp hm h2 1
  have h5 := lgs_cg hp (base := rst p a m) hm hne 1
  rw [ppow_one] at h5
  exact cg_unique hp hm hne h3 (rst_Po hp ha hm hne) h4 (rst_lt hp ha hm hne) h5
set_option maxRecDepth 20000 in
set_option maxHeartbeats 2000000 in
theorem order_any (va vm : Value) (p : Int) (xs ms : List Int) (og : Nat) (w : World) (hx : P64 p xs) (hm : P64 p ms) (ha : IsRow w va xs) (hv : IsRow w vm ms) (h2 : 2 ≤ ms.length) (ho : Ord p ms xs og) (hog : og ≤ 16807) :
    Calls Try.prog 14 #[.int .i64 p, va, vm] w fun e w' => e = .returned (.int .i64 (og : Int)) ∧ Below w.heap.size w w' := by
  have hne : ms ≠ [] := fun e => by rw [e] at h2; simp at h2
  have hoH := Lib.hid ho
  have hpr := Lib.hid hx.pr
  have hml := hm.le
  have hr := Lib.hid (rest_any va vm xs ms p w hx.pr ha hv hx.po hm.po hne (by have := hx.le; omega) (by omega))
  have h1H := Lib.hid (lgs_at1 hx.pr hx.po hm.po h2)
  have hoK := Lib.hid (fun k => lgs_ok (base := rst p xs ms) hx.pr hm.po h2 k)
  have hone := Lib.hid (fun k => (lgs_one hx.pr hx.po hm.po h2 k).trans (ho.dvd k))
  obtain ⟨B, hB⟩ : ∃ B, rst p xs ms = B := ⟨_, rfl⟩
  have hBP := rst_Po hx.pr hx.po hm.po hne
  have hBl := rst_lt hx.pr hx.po hm.po hne
  rw [hB] at hr h1H hoK hone hBP hBl
  have hBPH := Lib.hid hBP
  have hBlH := Lib.hid hBl
  have hmH := Lib.hid hm
  have hneH := Lib.hid hne
  have hvH := Lib.hid hv
  have ho1 := ho.one
  have hog2 := Lib.hid hog
  clear hx hm ha hv h2 ho hne hB hBP hBl
  go_enter Try.func14, Try.ntmps14
  go_wp2_with fail
  refine hr.out.mono ?_
  rintro e w1 ⟨v1, rfl, hV, hn⟩
  have hv1 := Lib.hid (hvH.out.below hn)
  have hVH := Lib.hid hV
  have hX1 := Lib.hid (show IsRow w1 v1 (lgs p B ms 1) by rw [h1H.out]; exact hV)
  have hb := Lib.hid hn
  clear hV hn hr hvH
  go_wp2_with fail
  go_loopw [7, 8] (fun kv xv wr => ∃ k : Nat, 1 ≤ k ∧ k ≤ og ∧ kv = .int .i64 (k : Int) ∧ Hid (IsRow wr xv (lgs p B ms k)) ∧ Hid (IsRow wr v1 B) ∧ Hid (IsRow wr vm ms) ∧ Hid (Below w.heap.size w wr)) (fun kv _ _ => og - (intOf kv).toNat)
  case atStart => exact ⟨1, by omega, ho1, rfl, hX1, hVH, hv1, hb⟩
  case round =>
    clear hX1 hVH hv1 hb
    rename World => w2
    obtain ⟨k, hk1, hk2, rfl, hX, hV, hM, hb⟩ := hrel
    obtain ⟨b, hb1⟩ := dec_true (lgs p B ms k = [1])
    have hiff : k = og ↔ b = true := by
      rw [← hb1, hone.out k]
      constructor
      · intro e; rw [e]; exact Nat.dvd_refl _
      · intro e; have := Nat.le_of_dvd (by omega) e; omega
    have his := Lib.hid (isOne_any u8 (lgs p B ms k) w2 hX.out b (by
      cases b
      · exact decide_eq_false fun e => absurd (hb1.1 e) (by simp)
      · exact decide_eq_true (hb1.2 rfl)))
    have hiffH := Lib.hid hiff
    clear hb1 hiff
    go_wp2_with fail
    refine his.out.mono ?_
    rintro e w3 ⟨rfl, rfl⟩
    clear his
    cases b
    · have hlt : k < og := by
        have h3 : k ≠ og := fun e => absurd (hiffH.out.1 e) (by simp)
        omega
      have hltH := Lib.hid hlt
      have hog3 := hog2.out
      have htm := Lib.hid (times_any u8 v1 (lgs p B ms k) B p w2 hpr.out hX.out hV.out (hoK.out k).1.md hBPH.out.md (by have := (hoK.out k).2; omega) (by have := hBlH.out; omega))
      go_wp2_with fail
      refine htm.out.mono ?_
      rintro e w4 ⟨v4, rfl, h4, hn⟩
      have hMl := mulp_len hpr.out (hoK.out k).1 hBPH.out
      have hrt := Lib.hid (rest_any v4 vm (mulp p (lgs p B ms k) B) ms p w4 hpr.out h4 (hM.out.below hn) (mulp_Po (by have := hpr.out.pos; omega) _ _) hmH.out.po hneH.out (by
        have h5 := (hoK.out k).2; have h6 := hBlH.out
        rcases hMl with e1 | ⟨_, _, e1⟩
        · rw [e1]; simp
        · omega) (by omega))
      replace hV := Lib.hid (hV.out.below hn)
      replace hM := Lib.hid (hM.out.below hn)
      replace hb := Lib.hid (below_step hb.out hn)
      clear hn h4 hMl htm
      go_wp2_with fail
      refine hrt.out.mono ?_
      rintro e w5 ⟨v5, rfl, h5, hn⟩
      have hX5 := Lib.hid (show IsRow w5 v5 (lgs p B ms (k + 1)) from h5)
      replace hV := Lib.hid (hV.out.below hn)
      replace hM := Lib.hid (hM.out.below hn)
      replace hb := Lib.hid (below_step hb.out hn)
      clear hn h5 hrt
      go_wp2_with fail
      go_roundw
      case rel => exact ⟨k + 1, by omega, by omega, by go_num, hX5, hV, hM, hb⟩
      case measure => have := hltH.out; simp [intOf] <;> omega
    · have e := hiffH.out.2 rfl
      have hbH := Lib.hid hb.out
      subst e
      go_wp2_with fail
      go_ret
      exact ⟨rfl, hbH.out⟩
def ordN (b c d : Bool) (og : Nat) : Int := if b then (if c then (if d then (og : Int) else 0) else 0) else 0
/-- What is known where a residue has an order. -/
def OrdIs (p : Int) (f g : Nat → Int) (og : Nat) : Prop := ∃ P : Nat, p = (P : Int) ∧ Uni p (cf (mkp 64 g)) (cf (mkp 64 f)) ∧ Ord p (mkp 64 g) (mkp 64 f) og ∧ og ≤ 16807
theorem Mon.mc {m : List Int} (h : Mon m) : Mc m := ⟨h.ne, h.1⟩
set_option maxRecDepth 20000 in
set_option maxHeartbeats 2000000 in
theorem specOrderModulo_any (f g : Nat → Int) (p : Int) (b c d : Bool) (og : Nat) (w : World) (hf : By f) (hg : By g) (hb : Good p [g, f] ↔ b = true) (hc : decide (Mon (mkp 64 g)) = c) (hd : decide ((bez p (mkp 64 f) (mkp 64 g)).1 = [1]) = d) (ho : b = true → c = true → d = true → OrdIs p f g og) :
    Calls Try.prog 4 #[.int .i64 p, .agg (u8s 64 f), .agg (u8s 64 g)] w fun e w' => e = .returned (.tuple #[.int .i64 (ordN b c d og), .int .i64 (invC b c d)]) ∧ Below w.heap.size w w' := by
  have hdH := Lib.hid hd
  have hoH := Lib.hid ho
  clear hd ho
  have hfH := Lib.hid hf
  clear hf
  have hgH := Lib.hid hg
  clear hg
  have hbH := Lib.hid hb
  have hcH := Lib.hid hc
  clear hb hc
  obtain ⟨hb, hA, hB⟩ := boxes2 w (u8s 64 f) (u8s 64 g) 25 25
  go_enter Try.func4, Try.ntmps4
  go_wp2_with ((with_reducible refine wpl_guard ?_); first | (refine wpl_load_arr rfl 25 _ rfl _ rfl _ _ hA _ _ uPoly sPoly ?_) | (refine wpl_load_arr rfl 25 _ rfl _ rfl _ _ hB _ _ uPoly sPoly ?_) | (refine wpl_buildSlice_polys rfl 38 25 1 _ rfl Try.underlying38 sPoly zPoly [f] rfl (by decide) (by decide) rfl ?_))
  refine (l02Modulus_lit g [f] 1 64 rfl rfl (by omega) p _ _ _ (Blk.newAt (by simp) _ _) hgH.out (by1 hfH.out) b c hbH.out hcH.out).mono ?_
  rintro e w1 ⟨rfl, hn⟩
  replace hA := (hA.alloc _).keep hn
  replace hB := (hB.alloc _).keep hn
  replace hb := below_step hb (below_step (below_new _ _) hn)
  clear hn
  cases b
  · go_wp2_with fail
    go_ret2
    exact ⟨rfl, hb⟩
  cases c
  · go_wp2_with fail
    go_ret2
    exact ⟨rfl, hb⟩
  have hG := hbH.out.2 rfl
  have hx : P64 p (mkp 64 f) := hG.p64 (f := f) (by simp) hfH.out
  have hy : P64 p (mkp 64 g) := hG.p64 (f := g) (by simp) hgH.out
  have hm := of_decide_eq_true hcH.out
  have hxH := Lib.hid hx
  have hyH := Lib.hid hy
  have hneH := Lib.hid hm.ne
  have hmH := Lib.hid hm
  clear hG hm
  have hu : ∀ w, Calls Try.prog 8 #[.int .i64 p, .agg (u8s 64 f), .agg (u8s 64 g)] w fun e w' => e = .returned (.bool d) ∧ Below w.heap.size w w' := fun w => by
    have := l02Unit_any _ _ p w hx hy hneH.out d hdH.out
    rwa [← u8s_mkp, ← u8s_mkp] at this
  have hi : ∀ w, d = true → Calls Try.prog 9 #[.int .i64 p, .agg (u8s 64 f), .agg (u8s 64 g)] w fun e w' => e = .returned (.int .i64 (og : Int)) ∧ Below w.heap.size w w' := fun w hd => by
    obtain ⟨P, hP, hun, hor, _⟩ := hoH.out (by first | rfl | trivial) (by first | rfl | trivial) hd
    have := l02Order_any p P _ _ og w hx hy hP hmH.out.mc hmH.out.2.1 hmH.out.2.2 hun hor
    rwa [← u8s_mkp, ← u8s_mkp] at this
  have huH := Lib.hid hu
  have hiH := Lib.hid hi
  clear hu hi hx hy
  go_wp2_with ((with_reducible refine wpl_guard ?_); first | (refine wpl_load_arr rfl 25 _ rfl _ rfl _ _ hA _ _ uPoly sPoly ?_) | (refine wpl_load_arr rfl 25 _ rfl _ rfl _ _ hB _ _ uPoly sPoly ?_))
  refine (huH.out _).mono ?_
  rintro e u1 ⟨rfl, hn⟩
  replace hA := hA.keep hn
  replace hB := hB.keep hn
  replace hb := below_step hb hn
  clear hn
  cases d
  · go_wp2_with fail
    go_ret2
    exact ⟨rfl, hb⟩
  go_wp2_with ((with_reducible refine wpl_guard ?_); first | (refine wpl_load_arr rfl 25 _ rfl _ rfl _ _ hA _ _ uPoly sPoly ?_) | (refine wpl_load_arr rfl 25 _ rfl _ rfl _ _ hB _ _ uPoly sPoly ?_))
  refine (hiH.out _ (by first | rfl | trivial)).mono ?_
  rintro e u2 ⟨rfl, hn⟩
  replace hb := below_step hb hn
  clear hn
  go_wp2_with fail
  go_ret2
  exact ⟨rfl, hb⟩
set_option maxRecDepth 20000 in
set_option maxHeartbeats 2000000 in
theorem implOrderModulo_any (f g : Nat → Int) (p : Int) (b c d : Bool) (og : Nat) (w : World) (hf : By f) (hg : By g) (hb : Good p [g, f] ↔ b = true) (hc : decide (Mon (mkp 64 g)) = c) (hd : decide ((bez p (mkp 64 f) (mkp 64 g)).1 = [1]) = d) (ho : b = true → c = true → d = true → OrdIs p f g og) :
    Calls Try.prog 6 #[.int .i64 p, .agg (u8s 64 f), .agg (u8s 64 g)] w fun e w' => e = .returned (.tuple #[.int .i64 (ordN b c d og), .int .i64 (invC b c d)]) ∧ Below w.heap.size w w' := by
  have hdH := Lib.hid hd
  have hoH := Lib.hid ho
  clear hd ho
  have hfH := Lib.hid hf
  clear hf
  have hgH := Lib.hid hg
  clear hg
  have hbH := Lib.hid hb
  have hcH := Lib.hid hc
  clear hb hc
  obtain ⟨hb, hA, hB⟩ := boxes2 w (u8s 64 f) (u8s 64 g) 25 25
  go_enter Try.func6, Try.ntmps6
  go_wp2_with ((with_reducible refine wpl_guard ?_); first | (refine wpl_load_arr rfl 25 _ rfl _ rfl _ _ hA _ _ uPoly sPoly ?_) | (refine wpl_load_arr rfl 25 _ rfl _ rfl _ _ hB _ _ uPoly sPoly ?_) | (refine wpl_buildSlice_polys rfl 38 25 1 _ rfl Try.underlying38 sPoly zPoly [f] rfl (by decide) (by decide) rfl ?_))
  refine (modulusCode_lit g [f] 1 64 rfl rfl (by omega) (by omega) p _ _ (Blk.newAt (by simp) _ _) hgH.out (by1 hfH.out) b c hbH.out hcH.out).mono ?_
  rintro e w1 ⟨rfl, hn⟩
  replace hb := below_lit hb (by simp only [size_alloc]; omega) (by simp) hn
  replace hA := hA.lit (by simp) hn
  replace hB := hB.lit (by simp) hn
  clear hn
  cases b
  · go_wp2_with fail
    go_ret2
    exact ⟨rfl, hb⟩
  cases c
  · go_wp2_with fail
    go_ret2
    exact ⟨rfl, hb⟩
  have hG := hbH.out.2 rfl
  have hx : P64 p (mkp 64 f) := hG.p64 (f := f) (by simp) hfH.out
  have hy : P64 p (mkp 64 g) := hG.p64 (f := g) (by simp) hgH.out
  have hm := of_decide_eq_true hcH.out
  have hmH := Lib.hid hm
  obtain ⟨D1, hD1⟩ : ∃ D, (bez p (mkp 64 f) (mkp 64 g)).1 = D := ⟨_, rfl⟩
  have hgc := fun va vb w ha hb => gcd_any va vb _ _ p w hx.pr ha hb hx.po hy.po (Or.inr hm.ne) hx.le hy.le
  have hd2 := hdH.out
  rw [hD1] at hgc hd2
  have hgcH := Lib.hid hgc
  have hio := Lib.hid (fun v w h => isOne_any v D1 w h d hd2)
  have hor := Lib.hid (fun va vb w (ha : IsRow w va (mkp 64 f)) (hb : IsRow w vb (mkp 64 g)) (hd : d = true) => (by
    obtain ⟨P, hP, hun, hor, hle⟩ := hoH.out (by first | rfl | trivial) (by first | rfl | trivial) hd
    exact order_any va vb p _ _ og w hx hy ha hb hmH.out.2.1 hor hle :
    Calls Try.prog 14 #[.int .i64 p, va, vb] w fun e w' => e = .returned (.int .i64 (og : Int)) ∧ Below w.heap.size w w'))
  clear hG hm hx hy hD1 hgc hd2 hdH
  go_upto_region 4 with (fail)
  refine gen_region (ws := w) (w := _) (B := w.heap.size) (by kernel_rfl) (by kernel_rfl) (by kernel_rfl) (by kernel_rfl)
      (fun i => ([fun zv _ => zv = .int .i64 p, fun zv _ => zv = .agg (u8s 64 f), fun v w => IsRow w v (mkp 64 f), fun zv _ => zv = .agg (u8s 64 g), fun v w => IsRow w v (mkp 64 g), fun v w => IsRow w v (D1), fun zv _ => zv = .bool d, fun zv _ => zv = .bool (!d)] : List (Value → World → Prop)).getD i (fun _ _ => True))
      (fun i => ([true, true, false, true, false, false, false, false] : List Bool).getD i true)
      0 (fun zk => [].getD zk 0) (fun zk => [].getD zk 0) (fun zk => [].getD zk 0) (fun zk => [].getD zk 0) (fun zk => [].getD zk 0) (fun zk => [].getD zk 0) (fun zk => [].getD zk (fun _ => 0)) (fun zk => [].getD zk (fun _ => 0)) (fun zk => [].getD zk 0) hb (Nat.le_refl _)
      (fun w' => Blk w' (w.heap.size) (u8s 64 f) 25 ∧ Blk w' (w.heap.size + 1) (u8s 64 g) 25 ∧ True) ⟨hA.drew, hB.drew, trivial⟩ (fun w1 w2 h hb => ⟨h.1.keep hb, h.2.1.keep hb, trivial⟩) ?_ ?_ ?_ ?_ ?_ ?_ ?_
  · exact fun k hk => absurd hk (by omega)
  · intro i v w1 w2 h hb
    rcases i with _|_|_|_|_|_|_|_|i
    · exact h
    · exact h
    · exact (show IsRow w1 v (mkp 64 f) from h).below hb
    · exact h
    · exact (show IsRow w1 v (mkp 64 g) from h).below hb
    · exact (show IsRow w1 v (D1) from h).below hb
    · exact h
    · exact h
    · exact h
  · exact fun k hk => absurd hk (by omega)
  · exact fun k hk => absurd hk (by omega)
  · kernel_rfl
  · intro i o ho hz a w2 hBs hSx hBl hrd hpar
    rcases i with _|_|_|_|_|_|_|_|i
    · obtain rfl := Option.some.inj ho
      have e0 : a.eval (.tmp 0) = .int .i64 p := hpar 0 _ (by kernel_rfl) (by kernel_rfl)
      exact wpv_of (wp_move _ _ rfl e0) (fun _ _ => rfl)
    · obtain rfl := Option.some.inj ho
      exact wpv_of (wp_loadB 25 _ rfl _ (hpar 4 (.pointer (some ⟨w.heap.size, 0, none⟩)) (by kernel_rfl) (by kernel_rfl)) _ _ hSx.1 _ _ uPoly sPoly) (fun _ _ => rfl)
    · obtain rfl := Option.some.inj ho
      obtain ⟨_, e18⟩ : ∃ _w : World, a.eval (.tmp 18) = .agg (u8s 64 f) := (hrd 1 _ 18 rfl rfl (by kernel_rfl) (by kernel_rfl) (by decide)).1
      exact wpv_call 13 [.tmp 18] _ rfl [.agg (u8s 64 f)] (by simp only [List.map_cons, List.map_nil, e18]) Try.call13 (rowOf_any f w2 hfH.out.on)
    · obtain rfl := Option.some.inj ho
      exact wpv_of (wp_loadB 25 _ rfl _ (hpar 5 (.pointer (some ⟨w.heap.size + 1, 0, none⟩)) (by kernel_rfl) (by kernel_rfl)) _ _ hSx.2.1 _ _ uPoly sPoly) (fun _ _ => rfl)
    · obtain rfl := Option.some.inj ho
      obtain ⟨_, e20⟩ : ∃ _w : World, a.eval (.tmp 20) = .agg (u8s 64 g) := (hrd 3 _ 20 rfl rfl (by kernel_rfl) (by kernel_rfl) (by decide)).1
      exact wpv_call 13 [.tmp 20] _ rfl [.agg (u8s 64 g)] (by simp only [List.map_cons, List.map_nil, e20]) Try.call13 (rowOf_any g w2 hgH.out.on)
    · obtain rfl := Option.some.inj ho
      obtain ⟨_, e17⟩ : ∃ _w : World, a.eval (.tmp 17) = .int .i64 p := (hrd 0 _ 17 rfl rfl (by kernel_rfl) (by kernel_rfl) (by decide)).1
      have h19 : (fun v w => IsRow w v (mkp 64 f)) (a.eval (.tmp 19)) w2 := (hrd 2 _ 19 rfl rfl (by kernel_rfl) (by kernel_rfl) (by decide)).2 rfl
      generalize e19 : a.eval (.tmp 19) = v19 at h19
      have h21 : (fun v w => IsRow w v (mkp 64 g)) (a.eval (.tmp 21)) w2 := (hrd 4 _ 21 rfl rfl (by kernel_rfl) (by kernel_rfl) (by decide)).2 rfl
      generalize e21 : a.eval (.tmp 21) = v21 at h21
      exact wpv_call 12 [.tmp 17, .tmp 19, .tmp 21] _ rfl [.int .i64 p, v19, v21] (by simp only [List.map_cons, List.map_nil, e17, e19, e21]) Try.call12 (hgcH.out _ _ w2 h19 h21)
    · obtain rfl := Option.some.inj ho
      have h22 : (fun v w => IsRow w v (D1)) (a.eval (.tmp 22)) w2 := (hrd 5 _ 22 rfl rfl (by kernel_rfl) (by kernel_rfl) (by decide)).2 rfl
      generalize e22 : a.eval (.tmp 22) = v22 at h22
      exact wpv_call 11 [.tmp 22] _ rfl [v22] (by simp only [List.map_cons, List.map_nil, e22]) Try.call11 ((hio.out _ w2 h22).mono fun _ _ ⟨h1, h2⟩ => ⟨_, h1, rfl, h2 ▸ Below.refl _ _⟩)
    · obtain rfl := Option.some.inj ho
      obtain ⟨_, e23⟩ : ∃ _w : World, a.eval (.tmp 23) = .bool d := (hrd 6 _ 23 rfl rfl (by kernel_rfl) (by kernel_rfl) (by decide)).1
      exact wpv_of (wp_not _ _ d rfl e23) (fun _ _ => rfl)
    · simp at ho
  intro vals xE hBx hSx hS0 hcs hrs
  obtain ⟨hBl, hc0⟩ := hS0 rfl
  have e0 : vals 0 = .int .i64 p := hc0 0 (by simp)
  have e1 : vals 1 = .agg (u8s 64 f) := hc0 1 (by simp)
  have cE2 : (fun v w => IsRow w v (mkp 64 f)) (vals 2) xE := hc0 2 (by simp)
  generalize ev2 : vals 2 = uE2 at cE2
  have e3 : vals 3 = .agg (u8s 64 g) := hc0 3 (by simp)
  have cE4 : (fun v w => IsRow w v (mkp 64 g)) (vals 4) xE := hc0 4 (by simp)
  generalize ev4 : vals 4 = uE4 at cE4
  have cE5 : (fun v w => IsRow w v (D1)) (vals 5) xE := hc0 5 (by simp)
  generalize ev5 : vals 5 = uE5 at cE5
  have e6 : vals 6 = .bool d := hc0 6 (by simp)
  have e7 : vals 7 = .bool (!d) := hc0 7 (by simp)
  simp only [List.length_cons, List.length_nil, Nat.zero_add, Nat.reduceAdd, List.replicate, putAll, if_true, Act.put, List.setIfInBounds_toArray, List.set_cons_zero, List.set_cons_succ, e0, e1, ev2, e3, ev4, ev5, e6, e7]
  replace hA := hSx.1
  replace hB := hSx.2.1
  clear hcs hrs hS0 hSx e0 e1 ev2 e3 ev4 ev5 e6 e7 hc0
  replace hb := hBx
  clear hBx
  cases d
  · go_wp2_with fail
    go_ret2
    exact ⟨rfl, hb⟩
  have hor2 := Lib.hid (fun va vb w (ha : IsRow w va (mkp 64 f)) (hb : IsRow w vb (mkp 64 g)) => hor.out va vb w ha hb (by first | rfl | trivial))
  clear hor
  go_upto_region 6 with (fail)
  refine gen_region (ws := w) (w := _) (B := w.heap.size) (by kernel_rfl) (by kernel_rfl) (by kernel_rfl) (by kernel_rfl)
      (fun i => ([fun zv _ => zv = .int .i64 p, fun zv _ => zv = .agg (u8s 64 f), fun v w => IsRow w v (mkp 64 f), fun zv _ => zv = .agg (u8s 64 g), fun v w => IsRow w v (mkp 64 g), fun zv _ => zv = .int .i64 (og : Int), fun zv _ => zv = .int .i64 (og : Int), fun zv _ => zv = .int .i64 0] : List (Value → World → Prop)).getD i (fun _ _ => True))
      (fun i => ([true, true, false, true, false, false, true, true] : List Bool).getD i true)
      0 (fun zk => [].getD zk 0) (fun zk => [].getD zk 0) (fun zk => [].getD zk 0) (fun zk => [].getD zk 0) (fun zk => [].getD zk 0) (fun zk => [].getD zk 0) (fun zk => [].getD zk (fun _ => 0)) (fun zk => [].getD zk (fun _ => 0)) (fun zk => [].getD zk 0) hb (Nat.le_refl _)
      (fun w' => Blk w' (w.heap.size) (u8s 64 f) 25 ∧ Blk w' (w.heap.size + 1) (u8s 64 g) 25 ∧ True) ⟨hA.drew, hB.drew, trivial⟩ (fun w1 w2 h hb => ⟨h.1.keep hb, h.2.1.keep hb, trivial⟩) ?_ ?_ ?_ ?_ ?_ ?_ ?_
  · exact fun k hk => absurd hk (by omega)
  · intro i v w1 w2 h hb
    rcases i with _|_|_|_|_|_|_|_|i
    · exact h
    · exact h
    · exact (show IsRow w1 v (mkp 64 f) from h).below hb
    · exact h
    · exact (show IsRow w1 v (mkp 64 g) from h).below hb
    · exact h
    · exact h
    · exact h
    · exact h
  · exact fun k hk => absurd hk (by omega)
  · exact fun k hk => absurd hk (by omega)
  · kernel_rfl
  · intro i o ho hz a w2 hBs hSx hBl hrd hpar
    rcases i with _|_|_|_|_|_|_|_|i
    · obtain rfl := Option.some.inj ho
      have e0 : a.eval (.tmp 0) = .int .i64 p := hpar 0 _ (by kernel_rfl) (by kernel_rfl)
      exact wpv_of (wp_move _ _ rfl e0) (fun _ _ => rfl)
    · obtain rfl := Option.some.inj ho
      exact wpv_of (wp_loadB 25 _ rfl _ (hpar 4 (.pointer (some ⟨w.heap.size, 0, none⟩)) (by kernel_rfl) (by kernel_rfl)) _ _ hSx.1 _ _ uPoly sPoly) (fun _ _ => rfl)
    · obtain rfl := Option.some.inj ho
      obtain ⟨_, e26⟩ : ∃ _w : World, a.eval (.tmp 26) = .agg (u8s 64 f) := (hrd 1 _ 26 rfl rfl (by kernel_rfl) (by kernel_rfl) (by decide)).1
      exact wpv_call 13 [.tmp 26] _ rfl [.agg (u8s 64 f)] (by simp only [List.map_cons, List.map_nil, e26]) Try.call13 (rowOf_any f w2 hfH.out.on)
    · obtain rfl := Option.some.inj ho
      exact wpv_of (wp_loadB 25 _ rfl _ (hpar 5 (.pointer (some ⟨w.heap.size + 1, 0, none⟩)) (by kernel_rfl) (by kernel_rfl)) _ _ hSx.2.1 _ _ uPoly sPoly) (fun _ _ => rfl)
    · obtain rfl := Option.some.inj ho
      obtain ⟨_, e28⟩ : ∃ _w : World, a.eval (.tmp 28) = .agg (u8s 64 g) := (hrd 3 _ 28 rfl rfl (by kernel_rfl) (by kernel_rfl) (by decide)).1
      exact wpv_call 13 [.tmp 28] _ rfl [.agg (u8s 64 g)] (by simp only [List.map_cons, List.map_nil, e28]) Try.call13 (rowOf_any g w2 hgH.out.on)
    · obtain rfl := Option.some.inj ho
      obtain ⟨_, e25⟩ : ∃ _w : World, a.eval (.tmp 25) = .int .i64 p := (hrd 0 _ 25 rfl rfl (by kernel_rfl) (by kernel_rfl) (by decide)).1
      have h27 : (fun v w => IsRow w v (mkp 64 f)) (a.eval (.tmp 27)) w2 := (hrd 2 _ 27 rfl rfl (by kernel_rfl) (by kernel_rfl) (by decide)).2 rfl
      generalize e27 : a.eval (.tmp 27) = v27 at h27
      have h29 : (fun v w => IsRow w v (mkp 64 g)) (a.eval (.tmp 29)) w2 := (hrd 4 _ 29 rfl rfl (by kernel_rfl) (by kernel_rfl) (by decide)).2 rfl
      generalize e29 : a.eval (.tmp 29) = v29 at h29
      exact wpv_call 14 [.tmp 25, .tmp 27, .tmp 29] _ rfl [.int .i64 p, v27, v29] (by simp only [List.map_cons, List.map_nil, e25, e27, e29]) Try.call14 ((hor2.out _ _ w2 h27 h29).mono fun _ _ ⟨h1, h2⟩ => ⟨_, h1, rfl, h2⟩)
    · obtain rfl := Option.some.inj ho
      obtain ⟨_, e30⟩ : ∃ _w : World, a.eval (.tmp 30) = .int .i64 (og : Int) := (hrd 5 _ 30 rfl rfl (by kernel_rfl) (by kernel_rfl) (by decide)).1
      exact wpv_of (wp_assign _ _ rfl e30) (fun _ _ => rfl)
    · obtain rfl := Option.some.inj ho
      exact wpv_of (wp_assign _ (.int .i64 0) rfl rfl) (fun _ _ => rfl)
    · simp at ho
  intro vals xF hBx hSx hS0 hcs hrs
  obtain ⟨hBl, hc0⟩ := hS0 rfl
  have e0 : vals 0 = .int .i64 p := hc0 0 (by simp)
  have e1 : vals 1 = .agg (u8s 64 f) := hc0 1 (by simp)
  have cF2 : (fun v w => IsRow w v (mkp 64 f)) (vals 2) xF := hc0 2 (by simp)
  generalize ev2 : vals 2 = uF2 at cF2
  have e3 : vals 3 = .agg (u8s 64 g) := hc0 3 (by simp)
  have cF4 : (fun v w => IsRow w v (mkp 64 g)) (vals 4) xF := hc0 4 (by simp)
  generalize ev4 : vals 4 = uF4 at cF4
  have e5 : vals 5 = .int .i64 (og : Int) := hc0 5 (by simp)
  have e6 : vals 6 = .int .i64 (og : Int) := hc0 6 (by simp)
  have e7 : vals 7 = .int .i64 0 := hc0 7 (by simp)
  simp only [List.length_cons, List.length_nil, Nat.zero_add, Nat.reduceAdd, List.replicate, putAll, if_true, Act.put, List.setIfInBounds_toArray, List.set_cons_zero, List.set_cons_succ, e0, e1, ev2, e3, ev4, e5, e6, e7]
  replace hA := hSx.1
  replace hB := hSx.2.1
  clear hcs hrs hS0 hSx e0 e1 ev2 e3 ev4 e5 e6 e7 hc0
  replace hb := hBx
  clear hBx
  go_wp2_with fail
  go_ret2
  exact ⟨rfl, hb⟩
theorem OrderModulo_pair (p : Int) (f g : Nat → Int) (_ : (Lit.int .i64 p).wf = true) (hf : By f) (hg : By g) : ∃ (r0 : Int) (r1 : Int),
    (∀ w, Calls Try.prog 4 #[.int .i64 p, .agg (u8s 64 f), .agg (u8s 64 g)] w fun e w' => e = .returned (.tuple #[.int .i64 r0, .int .i64 r1]) ∧ Below w.heap.size w w') ∧
    (∀ w, Calls Try.prog 6 #[.int .i64 p, .agg (u8s 64 f), .agg (u8s 64 g)] w fun e w' => e = .returned (.tuple #[.int .i64 r0, .int .i64 r1]) ∧ Below w.heap.size w w') := by
  obtain ⟨b, hb⟩ := dec_true (Good p [g, f])
  obtain ⟨og, ho⟩ : ∃ og, b = true → decide (Mon (mkp 64 g)) = true → decide ((bez p (mkp 64 f) (mkp 64 g)).1 = [1]) = true → OrdIs p f g og := by
    by_cases h : b = true ∧ Mon (mkp 64 g) ∧ (bez p (mkp 64 f) (mkp 64 g)).1 = [1]
    · obtain ⟨h1, h2, h3⟩ := h
      have hG := hb.2 h1
      have hx : P64 p (mkp 64 f) := hG.p64 (f := f) (by simp) hf
      have hy : P64 p (mkp 64 g) := hG.p64 (f := g) (by simp) hg
      have hp2 := hx.pr.pos
      obtain ⟨P, hP⟩ := Int.eq_ofNat_of_zero_le (show 0 ≤ p by omega)
      obtain ⟨_, _, fs, _, hfd, hle, _⟩ := calls_get (l02Euler_any p P (mkp 64 g) default hy hP h2.mc h2.2.2)
      have hun : Uni p (cf (mkp 64 g)) (cf (mkp 64 f)) := by
        have B := bez_ok hx.pr hx.po hy.po (Or.inr h2.ne)
        have hid := B.id
        rw [h3, cf_one] at hid
        exact ⟨_, _, cf_Fin0 _, Cg.symm ⟨_, _, cf_Fin0 _, hid⟩⟩
      obtain ⟨o, h4, h5, _⟩ := hfd.ord hx.pr hP hun
      exact ⟨o, fun _ _ _ => ⟨P, hP, hun, h4, by omega⟩⟩
    · exact ⟨0, fun h1 h2 h3 => absurd ⟨h1, of_decide_eq_true h2, of_decide_eq_true h3⟩ h⟩
  exact ⟨_, _, fun w => specOrderModulo_any f g p b _ _ og w hf hg hb rfl rfl ho, fun w => implOrderModulo_any f g p b _ _ og w hf hg hb rfl rfl ho⟩
end Go.Proofs.Ytojkngdabejjdaa

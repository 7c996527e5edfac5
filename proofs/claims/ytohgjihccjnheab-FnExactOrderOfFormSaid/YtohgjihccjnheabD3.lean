/- Walks: curves and forms of the program. -/
import Derived.Test.YtohgjihccjnheabD2
set_option linter.unusedVariables false
set_option linter.unusedSimpArgs false
namespace Go.Proofs.Ytohgjihccjnheab
open Go.RowKit

theorem IsRow.slice' {w : World} {v : Value} {xs : List Int} (h : IsRow w v xs) : ∃ a n c, v = .slice a n c := by
  obtain ⟨oa, cap, rfl, _⟩ := h; exact ⟨_, _, _, rfl⟩
theorem all_two {v0 v1 : Value} (h0 : v0.oneCell' = true) (h1 : v1.oneCell' = true) : (#[v0, v1] : Array Value).all (·.oneCell') = true := by simp [h0, h1]
/-- A row does not lie in a block that does not read so. -/
theorem IsRow.setRow {w : World} {r : Value} {xs : List Int} {g : Nat} {old : Array Value} {T : TypeId} (h : IsRow w r xs) (hB : Blk w g old T) (hno : 0 < xs.length → ∀ off, ∃ i, i < xs.length ∧ old[off + i]? ≠ some (.int .i64 (cf xs i))) (cs : Array Value) : IsRow (w.setRow g cs) r xs := by
  obtain ⟨oa, cap, h1, h2, h3, h4⟩ := h
  refine ⟨oa, cap, h1, h2, h3, fun hl => ?_⟩
  obtain ⟨b, off, e, hc⟩ := h4 hl
  refine ⟨b, off, e, fun i hi => ?_⟩
  by_cases hbg : b = g
  · subst hbg
    obtain ⟨j, hj, hne⟩ := hno hl off
    have := hc j hj
    rw [hB.cell] at this
    exact absurd this hne
  · have h5 := hc i hi
    rw [← h5]
    exact World.cell?_of_block (setRow_other w g b cs hbg)
theorem two_nils (xs : List Int) (h : 0 < xs.length) (off : Nat) : ∃ i, i < xs.length ∧ (#[Value.slice none 0 0, .slice none 0 0] : Array Value)[off + i]? ≠ some (.int .i64 (cf xs i)) := by
  refine ⟨0, h, ?_⟩
  match off with
  | 0 => simp
  | 1 => simp
  | n + 2 => simp
theorem int_nil (xs : List Int) (ht : Tr xs) (h : 0 < xs.length) (off : Nat) : ∃ i, i < xs.length ∧ (#[Value.int .i64 0, .slice none 0 0] : Array Value)[off + i]? ≠ some (.int .i64 (cf xs i)) := by
  match off with
  | 0 =>
    by_cases h1 : xs.length = 1
    · refine ⟨0, h, ?_⟩
      rcases ht with h2 | h2
      · omega
      · rw [h1] at h2; simp; exact fun e => h2 e.symm
    · exact ⟨1, by omega, by simp⟩
  | 1 => exact ⟨0, h, by simp⟩
  | n + 2 => exact ⟨0, h, by simp⟩

set_option maxRecDepth 20000 in
set_option maxHeartbeats 2000000 in
theorem curveOf_any (p : Int) (f : Nat → Int) (w : World) (hf : By f) :
    Calls Try.prog 14 #[.int .i64 p, .agg (u8s 64 f)] w fun e w' => ∃ vd, e = .returned (.agg #[.int .i64 p, vd]) ∧ IsRow w' vd (mkp 64 f) ∧ Below w.heap.size w w' := by
  have hfH := Lib.hid hf
  clear hf
  obtain ⟨hb, hA, hZ⟩ := boxes2 w (u8s 64 f) #[.int .i64 0, .slice none 0 0] 27 42
  go_enter Try.func14, Try.ntmps14
  go_wp2_with ((with_reducible refine wpl_guard ?_); first | (refine wpl_load_arr rfl 27 _ rfl _ rfl _ _ hA _ _ uPoly sPoly ?_) | (refine wpl_alloc_arr rfl 42 rfl _ zcurve ?_))
  refine (rowOf_any f _ hfH.out.on).mono ?_
  rintro e u0 ⟨vr, rfl, hr, hn⟩
  replace hZ := hZ.keep hn
  replace hb := below_step hb hn
  obtain ⟨ra, rn, rc, rfl⟩ := hr.slice'
  have hr2 := Lib.hid (fun cs => hr.setRow hZ (int_nil _ (mkp_Tr _ _)) cs)
  clear hn hr
  go_wp2_with ((with_reducible refine wpl_guard ?_); first | (refine wpl_build_pair rfl 42 1 1 _ lcurve rfl _ _ rfl _ _ rfl rfl rfl rfl _ rfl ?_) | (refine wpl_store_arr rfl 42 _ _ rfl _ rfl _ rfl _ _ hZ scurve rfl (all_two rfl rfl) ?_))
  exact bodyPost_ret (res_s rfl rfl (hZ.setRow_same (cs := #[.int .i64 p, .slice ra rn rc])) tcurve scurve) rfl ⟨_, rfl, hr2.out _, below_setRow hb (by omega) _⟩

set_option maxRecDepth 20000 in
set_option maxHeartbeats 2000000 in
theorem formOf_any (f g : Nat → Int) (w : World) (hf : By f) (hg : By g) :
    Calls Try.prog 16 #[.agg (u8s 128 (fmF f g))] w fun e w' => ∃ va vb, e = .returned (.agg #[va, vb]) ∧ IsRow w' va (mkp 64 f) ∧ IsRow w' vb (mkp 64 g) ∧ Below w.heap.size w w' := by
  have hfH := Lib.hid hf
  have hgH := Lib.hid hg
  clear hf hg
  obtain ⟨hb, hA, hZ⟩ := boxes2 w (u8s 128 (fmF f g)) #[.slice none 0 0, .slice none 0 0] 30 46
  go_enter Try.func16, Try.ntmps16
  go_upto_region 1 with ((with_reducible refine wpl_guard ?_); first | (refine wpl_alloc_arr rfl 46 rfl _ zform ?_))
  simp only [size_alloc]
  go_upto_region 1 with (fail)
  refine gen_last (w := _) (by kernel_rfl) (by kernel_rfl) (by kernel_rfl) 7 (by kernel_rfl)
      (fun i => ([fun zv _ => zv = .pointer (some ⟨w.heap.size, 0 + 0, none⟩), fun zv _ => zv = .agg (u8s 64 (f)), fun v w => IsRow w v (mkp 64 f), fun zv _ => zv = .pointer (some ⟨w.heap.size, 0 + 64, none⟩), fun zv _ => zv = .agg (u8s 64 (g)), fun v w => IsRow w v (mkp 64 g), fun v w => ∃ va vb, v = .agg #[va, vb] ∧ IsRow w va (mkp 64 f) ∧ IsRow w vb (mkp 64 g), fun _ _ => True] : List (Value → World → Prop)).getD i (fun _ _ => True))
      (fun w' => Blk w' (w.heap.size) (u8s 128 (fmF f g)) 30 ∧ Blk w' (w.heap.size + 1) (#[.slice none 0 0, .slice none 0 0]) 46 ∧ True) ⟨hA.drew, hZ.drew, trivial⟩ (fun w1 w2 h hb => ⟨h.1.keep hb, h.2.1.keep hb, trivial⟩) ?_ ?_ ?_
  · intro i v w1 w2 h hb
    rcases i with _|_|_|_|_|_|_|_|i
    · exact h
    · exact h
    · exact (show IsRow w1 v (mkp 64 f) from h).below hb
    · exact h
    · exact h
    · exact (show IsRow w1 v (mkp 64 g) from h).below hb
    · obtain ⟨va, vb, e, h1, h2⟩ := h; exact ⟨va, vb, e, h1.below hb, h2.below hb⟩
    · exact h
    · exact h
  · intro i o ho hiZ a w2 hBl hSx hrd hpar
    rcases i with _|_|_|_|_|_|_|_|i
    · obtain rfl := Option.some.inj ho
      refine .inl ⟨rfl, ?_⟩
      exact wpv_of (wp_fieldB 30 _ 0 rfl 0 64 fForm0 (w.heap.size) 0 (hpar 1 _ (by kernel_rfl) (by kernel_rfl))) (fun _ _ => rfl)
    · obtain rfl := Option.some.inj ho
      refine .inl ⟨rfl, ?_⟩
      have e3 : a.eval (.tmp 3) = .pointer (some ⟨w.heap.size, 0 + 0, none⟩) := hrd 0 _ 3 rfl rfl (by kernel_rfl) (by kernel_rfl)
      exact wpv_of (wp_load_A 27 _ rfl _ e3 _ _ _ hSx.1 uPoly sPoly) (fun _ _ => rfl)
    · obtain rfl := Option.some.inj ho
      refine .inl ⟨rfl, ?_⟩
      have e4 : a.eval (.tmp 4) = .agg (u8s 64 (f)) := hrd 1 _ 4 rfl rfl (by kernel_rfl) (by kernel_rfl)
      exact wpv_call 23 [.tmp 4] _ rfl [.agg (u8s 64 (f))] (by simp only [List.map_cons, List.map_nil, e4]) Try.call23 (rowOf_any f w2 hfH.out.on)
    · obtain rfl := Option.some.inj ho
      refine .inl ⟨rfl, ?_⟩
      exact wpv_of (wp_fieldB 30 _ 1 rfl 64 64 fForm1 (w.heap.size) 0 (hpar 1 _ (by kernel_rfl) (by kernel_rfl))) (fun _ _ => rfl)
    · obtain rfl := Option.some.inj ho
      refine .inl ⟨rfl, ?_⟩
      have e6 : a.eval (.tmp 6) = .pointer (some ⟨w.heap.size, 0 + 64, none⟩) := hrd 3 _ 6 rfl rfl (by kernel_rfl) (by kernel_rfl)
      exact wpv_of (wp_load_B 27 _ rfl _ e6 _ _ _ hSx.1 uPoly sPoly) (fun _ _ => rfl)
    · obtain rfl := Option.some.inj ho
      refine .inl ⟨rfl, ?_⟩
      have e7 : a.eval (.tmp 7) = .agg (u8s 64 (g)) := hrd 4 _ 7 rfl rfl (by kernel_rfl) (by kernel_rfl)
      exact wpv_call 23 [.tmp 7] _ rfl [.agg (u8s 64 (g))] (by simp only [List.map_cons, List.map_nil, e7]) Try.call23 (rowOf_any g w2 hgH.out.on)
    · obtain rfl := Option.some.inj ho
      refine .inl ⟨rfl, ?_⟩
      have h5 : (fun v w => IsRow w v (mkp 64 f)) (a.eval (.tmp 5)) w2 := hrd 2 _ 5 rfl rfl (by kernel_rfl) (by kernel_rfl)
      generalize e5 : a.eval (.tmp 5) = v5 at h5
      have h8 : (fun v w => IsRow w v (mkp 64 g)) (a.eval (.tmp 8)) w2 := hrd 5 _ 8 rfl rfl (by kernel_rfl) (by kernel_rfl)
      generalize e8 : a.eval (.tmp 8) = v8 at h8
      obtain ⟨a5, n5, c5, rfl⟩ := h5.slice'
      obtain ⟨a8, n8, c8, rfl⟩ := h8.slice'
      exact wpv_of (wp_build_pair 46 1 1 _ lform rfl _ _ rfl _ _ e5 e8 rfl rfl _ rfl) (fun w' hb => ⟨_, _, rfl, h5.below hb, h8.below hb⟩)
    · obtain rfl := Option.some.inj ho
      exact absurd rfl hiZ
    · simp at ho
  intro oZ hoZ vals xE hBx hSx hc0
  obtain rfl := Option.some.inj hoZ
  clear hoZ
  have e0 : vals 0 = .pointer (some ⟨w.heap.size, 0 + 0, none⟩) := hc0 0 (by simp) (by decide)
  have e1 : vals 1 = .agg (u8s 64 (f)) := hc0 1 (by simp) (by decide)
  have cE2 : (fun v w => IsRow w v (mkp 64 f)) (vals 2) xE := hc0 2 (by simp) (by decide)
  generalize ev2 : vals 2 = uE2 at cE2
  have e3 : vals 3 = .pointer (some ⟨w.heap.size, 0 + 64, none⟩) := hc0 3 (by simp) (by decide)
  have e4 : vals 4 = .agg (u8s 64 (g)) := hc0 4 (by simp) (by decide)
  have cE5 : (fun v w => IsRow w v (mkp 64 g)) (vals 5) xE := hc0 5 (by simp) (by decide)
  generalize ev5 : vals 5 = uE5 at cE5
  have cE6 : (fun v w => ∃ va vb, v = .agg #[va, vb] ∧ IsRow w va (mkp 64 f) ∧ IsRow w vb (mkp 64 g)) (vals 6) xE := hc0 6 (by simp) (by decide)
  generalize ev6 : vals 6 = uE6 at cE6
  refine ⟨rfl, ?_⟩
  simp only [List.length_cons, List.length_nil, Nat.zero_add, Nat.reduceAdd, List.replicate, seenAll, Bool.false_eq_true, if_false, putAll, if_true, Act.put, List.setIfInBounds_toArray, List.set_cons_zero, List.set_cons_succ, e0, e1, ev2, e3, e4, ev5, ev6]
  replace hA := hSx.1
  replace hZ := hSx.2.1
  replace hb := below_step hb hBx
  clear hc0 hSx e0 e1 ev2 e3 e4 ev5 ev6
  obtain ⟨va, vb, rfl, hra, hrb⟩ := cE6
  obtain ⟨a5, n5, c5, rfl⟩ := hra.slice'
  obtain ⟨a8, n8, c8, rfl⟩ := hrb.slice'
  have hra2 := hra.setRow hZ (two_nils _) #[.slice a5 n5 c5, .slice a8 n8 c8]
  have hrb2 := hrb.setRow hZ (two_nils _) #[.slice a5 n5 c5, .slice a8 n8 c8]
  refine wp_store_arr 46 _ _ rfl (w.heap.size + 1) rfl _ rfl _ _ hZ sform rfl (all_two rfl rfl) ?_
  go_wp2_with fail
  exact bodyPost_ret (res_s rfl rfl (hZ.setRow_same (cs := #[.slice a5 n5 c5, .slice a8 n8 c8])) tform sform) rfl ⟨_, _, rfl, hra2, hrb2, below_setRow hb (by omega) _⟩

/-- What makes a form, of lists. -/
def FrmL (p : Int) (ds xs ys : List Int) : Prop := cf xs (xs.length - 1) = 1 ∧ xs.length ≤ 13 ∧ ys.length < xs.length ∧ rst p (sqd p ds ys) xs = []
theorem rst_one {p : Int} {S : List Int} (hS : P64 p S) : rst p S [1] = [] := by
  have h := rst_lt hS.pr hS.po (P64.one hS.pr).po (by simp)
  have h2 : (rst p S [1]).length < 1 := h
  exact List.length_eq_zero_iff.1 (by omega)

set_option maxRecDepth 20000 in
set_option maxHeartbeats 2000000 in
theorem isForm_any (vd va vb : Value) (p : Int) (ds xs ys : List Int) (b : Bool) (w : World) (hc : IsRow w vd ds) (ha : IsRow w va xs) (hb : IsRow w vb ys) (hd : P64 p ds) (hxs : P64 p xs) (hys : P64 p ys) (hB : FrmL p ds xs ys ↔ b = true) :
    Calls Try.prog 67 #[.agg #[.int .i64 p, vd], .agg #[va, vb]] w fun e w' => e = .returned (.bool b) ∧ Below w.heap.size w w' := by
  have hcv := Lib.hid hc
  have haH := Lib.hid ha
  have hbH := Lib.hid hb
  have hBH := Lib.hid hB
  obtain ⟨x, hx⟩ : ∃ x, cf xs (xs.length - 1) = x := ⟨_, rfl⟩
  have kl := Lib.hid (fun w (h : IsRow w va xs) => hx ▸ lead_any va xs w h)
  have kda := Lib.hid (fun w (h : IsRow w va xs) => degree_any va xs w h)
  have kdb := Lib.hid (fun w (h : IsRow w vb ys) => degree_any vb ys w h)
  obtain ⟨on, hon⟩ : ∃ t, decide (xs = [1]) = t := ⟨_, rfl⟩
  have kon := Lib.hid (fun w (h : IsRow w va xs) => isOne_any va xs w h on hon)
  have honH := Lib.hid hon
  have hxH := Lib.hid hx
  have hP := Lib.hid (And.intro hd (And.intro hxs hys))
  obtain ⟨La, hLa⟩ : ∃ n, xs.length = n := ⟨_, rfl⟩
  obtain ⟨Lb, hLb⟩ : ∃ n, ys.length = n := ⟨_, rfl⟩
  rw [hLa] at kda
  rw [hLb] at kdb
  have hLaH := Lib.hid hLa
  have hLbH := Lib.hid hLb
  have hvb : ∃ oa cap, vb = .slice oa Lb cap := by obtain ⟨oa, cap, h, _⟩ := hb; exact ⟨oa, cap, by rw [← hLb]; exact h⟩
  obtain ⟨ob, cb, hvb⟩ := hvb
  have hone : on = true → x = 1 ∧ La = 1 := fun h => by
    have e : xs = [1] := of_decide_eq_true (hon.trans h)
    rw [e] at hx hLa
    exact ⟨hx.symm, hLa.symm⟩
  have honeH := Lib.hid hone
  clear hc ha hb hB hx hon hd hxs hys hLa hLb hone
  subst hvb
  obtain ⟨hb, hC, hA⟩ := boxes2 w #[.int .i64 p, vd] #[va, .slice ob Lb cb] 42 46
  go_enter Try.func67, Try.ntmps67
  obtain ⟨t1, q1⟩ : ∃ t, cmpB .eql x 1 = t := ⟨_, rfl⟩
  cases t1
  ·
    have hon0 : on = false := by
      cases on
      · rfl
      · exact absurd (honeH.out rfl) (fun h => by have := h.1; rw [this] at q1; cases q1)
    subst hon0
    have hbf : b = false := bad_of hBH.out (fun h => by have := h.1; rw [hxH.out] at this; rw [this] at q1; cases q1)
    subst hbf
    have hB0 := hb
    go_upto_region 1 with (fail)
    refine gen_guard (w := _) (by kernel_rfl) (by kernel_rfl) (by kernel_rfl)
        (fun i => ([fun zv _ => zv = .pointer (some ⟨w.heap.size + 1, 0 + 0, none⟩), fun zv _ => zv = va, fun zv _ => zv = .int .i64 x, fun zv _ => zv = .bool false, fun zv _ => zv = .bool false, fun zv _ => zv = undef, fun zv _ => zv = undef, fun zv _ => zv = undef, fun zv _ => zv = undef, fun zv _ => zv = .bool false, fun zv _ => zv = .bool false, fun zv _ => zv = undef, fun zv _ => zv = undef, fun zv _ => zv = undef, fun zv _ => zv = undef, fun zv _ => zv = undef, fun zv _ => zv = undef, fun zv _ => zv = undef, fun zv _ => zv = .bool false, fun zv _ => zv = .bool false, fun zv _ => zv = undef, fun zv _ => zv = undef, fun zv _ => zv = undef, fun zv _ => zv = undef, fun zv _ => zv = undef, fun zv _ => zv = undef, fun zv _ => zv = undef, fun zv _ => zv = undef, fun zv _ => zv = undef, fun zv _ => zv = undef, fun zv _ => zv = undef, fun zv _ => zv = undef, fun zv _ => zv = undef, fun zv _ => zv = undef, fun zv _ => zv = undef, fun zv _ => zv = undef, fun zv _ => zv = undef, fun zv _ => zv = undef, fun zv _ => zv = undef, fun zv _ => zv = .bool false, fun zv _ => zv = .bool false, fun zv _ => zv = .pointer (some ⟨w.heap.size + 1, 0 + 0, none⟩), fun zv _ => zv = va, fun zv _ => zv = .bool false, fun zv _ => zv = .bool false, fun zv _ => zv = undef, fun zv _ => zv = undef, fun zv _ => zv = undef, fun zv _ => zv = undef, fun zv _ => zv = .bool false, fun zv _ => zv = .bool false, fun zv _ => zv = .bool false] : List (Value → World → Prop)).getD i (fun _ _ => True))
        (fun w' => Blk w' (w.heap.size) (#[.int .i64 p, vd]) 42 ∧ Blk w' (w.heap.size + 1) (#[va, .slice ob Lb cb]) 46 ∧ True) ⟨hC.drew, hA.drew, trivial⟩ (fun w1 w2 h hb => ⟨h.1.keep hb, h.2.1.keep hb, trivial⟩) ?_ ?_ ?_
    · intro i v w1 w2 h hb
      rcases i with _|_|_|_|_|_|_|_|_|_|_|_|_|_|_|_|_|_|_|_|_|_|_|_|_|_|_|_|_|_|_|_|_|_|_|_|_|_|_|_|_|_|_|_|_|_|_|_|_|_|_|_|i
      · exact h
      · exact h
      · exact h
      · exact h
      · exact h
      · exact h
      · exact h
      · exact h
      · exact h
      · exact h
      · exact h
      · exact h
      · exact h
      · exact h
      · exact h
      · exact h
      · exact h
      · exact h
      · exact h
      · exact h
      · exact h
      · exact h
      · exact h
      · exact h
      · exact h
      · exact h
      · exact h
      · exact h
      · exact h
      · exact h
      · exact h
      · exact h
      · exact h
      · exact h
      · exact h
      · exact h
      · exact h
      · exact h
      · exact h
      · exact h
      · exact h
      · exact h
      · exact h
      · exact h
      · exact h
      · exact h
      · exact h
      · exact h
      · exact h
      · exact h
      · exact h
      · exact h
      · exact h
    · intro i o ho a w2 hBl hSx hrd hpar
      rcases i with _|_|_|_|_|_|_|_|_|_|_|_|_|_|_|_|_|_|_|_|_|_|_|_|_|_|_|_|_|_|_|_|_|_|_|_|_|_|_|_|_|_|_|_|_|_|_|_|_|_|_|_|i
      · obtain rfl := Option.some.inj ho
        refine .inl ⟨rfl, ?_⟩
        exact wpv_of (wp_fieldB 46 _ 0 rfl 0 1 fform0 (w.heap.size + 1) 0 (hpar 3 _ (by kernel_rfl) (by kernel_rfl))) (fun _ _ => rfl)
      · obtain rfl := Option.some.inj ho
        refine .inl ⟨rfl, ?_⟩
        have e5 : a.eval (.tmp 5) = .pointer (some ⟨w.heap.size + 1, 0 + 0, none⟩) := hrd 0 _ 5 rfl rfl (by kernel_rfl) (by kernel_rfl)
        exact wpv_of (wp_load_slice 40 2 _ rfl _ e5 uRowT _ (by rw [hSx.2.1.cell]; rfl)) (fun _ _ => rfl)
      · obtain rfl := Option.some.inj ho
        refine .inl ⟨rfl, ?_⟩
        have e6 : a.eval (.tmp 6) = va := hrd 1 _ 6 rfl rfl (by kernel_rfl) (by kernel_rfl)
        exact wpv_call 79 [.tmp 6] _ rfl [va] (by simp only [List.map_cons, List.map_nil, e6]) Try.call79 ((kl.out w2 (haH.out.below (hB0.trans (hBl.mono hB0.size)))).mono fun _ _ ⟨h1, h2⟩ => ⟨_, h1, rfl, h2 ▸ Below.refl _ _⟩)
      · obtain rfl := Option.some.inj ho
        refine .inl ⟨rfl, ?_⟩
        have e7 : a.eval (.tmp 7) = .int .i64 x := hrd 2 _ 7 rfl rfl (by kernel_rfl) (by kernel_rfl)
        exact wpv_of (wp_cmp .eql _ _ _ _ rfl rfl .i64 _ _ e7 rfl _ q1) (fun _ _ => rfl)
      · obtain rfl := Option.some.inj ho
        refine .inl ⟨rfl, ?_⟩
        have e8 : a.eval (.tmp 8) = .bool false := hrd 3 _ 8 rfl rfl (by kernel_rfl) (by kernel_rfl)
        exact wpv_of (wp_move _ _ rfl e8) (fun _ _ => rfl)
      · obtain rfl := Option.some.inj ho
        exact .inr (.inr ⟨4, true, _, 9, rfl, rfl, rfl, (by kernel_rfl), (by kernel_rfl), fun v w' h => .inl h, fun _ => rfl⟩)
      · obtain rfl := Option.some.inj ho
        exact .inr (.inr ⟨4, true, _, 9, rfl, rfl, rfl, (by kernel_rfl), (by kernel_rfl), fun v w' h => .inl h, fun _ => rfl⟩)
      · obtain rfl := Option.some.inj ho
        exact .inr (.inr ⟨4, true, _, 9, rfl, rfl, rfl, (by kernel_rfl), (by kernel_rfl), fun v w' h => .inl h, fun _ => rfl⟩)
      · obtain rfl := Option.some.inj ho
        exact .inr (.inr ⟨4, true, _, 9, rfl, rfl, rfl, (by kernel_rfl), (by kernel_rfl), fun v w' h => .inl h, fun _ => rfl⟩)
      · obtain rfl := Option.some.inj ho
        refine .inl ⟨rfl, ?_⟩
        have e9 : a.eval (.tmp 9) = .bool false := hrd 4 _ 9 rfl rfl (by kernel_rfl) (by kernel_rfl)
        exact wpv_of (wp_pickF _ _ _ rfl e9 (.bool false) rfl) (fun _ _ => rfl)
      · obtain rfl := Option.some.inj ho
        refine .inl ⟨rfl, ?_⟩
        have e14 : a.eval (.tmp 14) = .bool false := hrd 9 _ 14 rfl rfl (by kernel_rfl) (by kernel_rfl)
        exact wpv_of (wp_move _ _ rfl e14) (fun _ _ => rfl)
      · obtain rfl := Option.some.inj ho
        exact .inr (.inr ⟨10, true, _, 15, rfl, rfl, rfl, (by kernel_rfl), (by kernel_rfl), fun v w' h => .inl h, fun _ => rfl⟩)
      · obtain rfl := Option.some.inj ho
        exact .inr (.inr ⟨10, true, _, 15, rfl, rfl, rfl, (by kernel_rfl), (by kernel_rfl), fun v w' h => .inl h, fun _ => rfl⟩)
      · obtain rfl := Option.some.inj ho
        exact .inr (.inr ⟨10, true, _, 15, rfl, rfl, rfl, (by kernel_rfl), (by kernel_rfl), fun v w' h => .inl h, fun _ => rfl⟩)
      · obtain rfl := Option.some.inj ho
        exact .inr (.inr ⟨10, true, _, 15, rfl, rfl, rfl, (by kernel_rfl), (by kernel_rfl), fun v w' h => .inl h, fun _ => rfl⟩)
      · obtain rfl := Option.some.inj ho
        exact .inr (.inr ⟨10, true, _, 15, rfl, rfl, rfl, (by kernel_rfl), (by kernel_rfl), fun v w' h => .inl h, fun _ => rfl⟩)
      · obtain rfl := Option.some.inj ho
        exact .inr (.inr ⟨10, true, _, 15, rfl, rfl, rfl, (by kernel_rfl), (by kernel_rfl), fun v w' h => .inl h, fun _ => rfl⟩)
      · obtain rfl := Option.some.inj ho
        exact .inr (.inr ⟨10, true, _, 15, rfl, rfl, rfl, (by kernel_rfl), (by kernel_rfl), fun v w' h => .inl h, fun _ => rfl⟩)
      · obtain rfl := Option.some.inj ho
        refine .inl ⟨rfl, ?_⟩
        have e15 : a.eval (.tmp 15) = .bool false := hrd 10 _ 15 rfl rfl (by kernel_rfl) (by kernel_rfl)
        exact wpv_of (wp_pickF _ _ _ rfl e15 (.bool false) rfl) (fun _ _ => rfl)
      · obtain rfl := Option.some.inj ho
        refine .inl ⟨rfl, ?_⟩
        have e23 : a.eval (.tmp 23) = .bool false := hrd 18 _ 23 rfl rfl (by kernel_rfl) (by kernel_rfl)
        exact wpv_of (wp_move _ _ rfl e23) (fun _ _ => rfl)
      · obtain rfl := Option.some.inj ho
        exact .inr (.inr ⟨19, true, _, 24, rfl, rfl, rfl, (by kernel_rfl), (by kernel_rfl), fun v w' h => .inl h, fun _ => rfl⟩)
      · obtain rfl := Option.some.inj ho
        exact .inr (.inr ⟨19, true, _, 24, rfl, rfl, rfl, (by kernel_rfl), (by kernel_rfl), fun v w' h => .inl h, fun _ => rfl⟩)
      · obtain rfl := Option.some.inj ho
        exact .inr (.inr ⟨19, true, _, 24, rfl, rfl, rfl, (by kernel_rfl), (by kernel_rfl), fun v w' h => .inl h, fun _ => rfl⟩)
      · obtain rfl := Option.some.inj ho
        exact .inr (.inr ⟨19, true, _, 24, rfl, rfl, rfl, (by kernel_rfl), (by kernel_rfl), fun v w' h => .inl h, fun _ => rfl⟩)
      · obtain rfl := Option.some.inj ho
        exact .inr (.inr ⟨19, true, _, 24, rfl, rfl, rfl, (by kernel_rfl), (by kernel_rfl), fun v w' h => .inl h, fun _ => rfl⟩)
      · obtain rfl := Option.some.inj ho
        exact .inr (.inr ⟨19, true, _, 24, rfl, rfl, rfl, (by kernel_rfl), (by kernel_rfl), fun v w' h => .inl h, fun _ => rfl⟩)
      · obtain rfl := Option.some.inj ho
        exact .inr (.inr ⟨19, true, _, 24, rfl, rfl, rfl, (by kernel_rfl), (by kernel_rfl), fun v w' h => .inl h, fun _ => rfl⟩)
      · obtain rfl := Option.some.inj ho
        exact .inr (.inr ⟨19, true, _, 24, rfl, rfl, rfl, (by kernel_rfl), (by kernel_rfl), fun v w' h => .inl h, fun _ => rfl⟩)
      · obtain rfl := Option.some.inj ho
        exact .inr (.inr ⟨19, true, _, 24, rfl, rfl, rfl, (by kernel_rfl), (by kernel_rfl), fun v w' h => .inl h, fun _ => rfl⟩)
      · obtain rfl := Option.some.inj ho
        exact .inr (.inr ⟨19, true, _, 24, rfl, rfl, rfl, (by kernel_rfl), (by kernel_rfl), fun v w' h => .inl h, fun _ => rfl⟩)
      · obtain rfl := Option.some.inj ho
        exact .inr (.inr ⟨19, true, _, 24, rfl, rfl, rfl, (by kernel_rfl), (by kernel_rfl), fun v w' h => .inl h, fun _ => rfl⟩)
      · obtain rfl := Option.some.inj ho
        exact .inr (.inr ⟨19, true, _, 24, rfl, rfl, rfl, (by kernel_rfl), (by kernel_rfl), fun v w' h => .inl h, fun _ => rfl⟩)
      · obtain rfl := Option.some.inj ho
        exact .inr (.inr ⟨19, true, _, 24, rfl, rfl, rfl, (by kernel_rfl), (by kernel_rfl), fun v w' h => .inl h, fun _ => rfl⟩)
      · obtain rfl := Option.some.inj ho
        exact .inr (.inr ⟨19, true, _, 24, rfl, rfl, rfl, (by kernel_rfl), (by kernel_rfl), fun v w' h => .inl h, fun _ => rfl⟩)
      · obtain rfl := Option.some.inj ho
        exact .inr (.inr ⟨19, true, _, 24, rfl, rfl, rfl, (by kernel_rfl), (by kernel_rfl), fun v w' h => .inl h, fun _ => rfl⟩)
      · obtain rfl := Option.some.inj ho
        exact .inr (.inr ⟨19, true, _, 24, rfl, rfl, rfl, (by kernel_rfl), (by kernel_rfl), fun v w' h => .inl h, fun _ => rfl⟩)
      · obtain rfl := Option.some.inj ho
        exact .inr (.inr ⟨19, true, _, 24, rfl, rfl, rfl, (by kernel_rfl), (by kernel_rfl), fun v w' h => .inl h, fun _ => rfl⟩)
      · obtain rfl := Option.some.inj ho
        exact .inr (.inr ⟨19, true, _, 24, rfl, rfl, rfl, (by kernel_rfl), (by kernel_rfl), fun v w' h => .inl h, fun _ => rfl⟩)
      · obtain rfl := Option.some.inj ho
        exact .inr (.inr ⟨19, true, _, 24, rfl, rfl, rfl, (by kernel_rfl), (by kernel_rfl), fun v w' h => .inl h, fun _ => rfl⟩)
      · obtain rfl := Option.some.inj ho
        refine .inl ⟨rfl, ?_⟩
        have e24 : a.eval (.tmp 24) = .bool false := hrd 19 _ 24 rfl rfl (by kernel_rfl) (by kernel_rfl)
        exact wpv_of (wp_pickF _ _ _ rfl e24 (.bool false) rfl) (fun _ _ => rfl)
      · obtain rfl := Option.some.inj ho
        refine .inl ⟨rfl, ?_⟩
        have e44 : a.eval (.tmp 44) = .bool false := hrd 39 _ 44 rfl rfl (by kernel_rfl) (by kernel_rfl)
        exact wpv_of (wp_move _ _ rfl e44) (fun _ _ => rfl)
      · obtain rfl := Option.some.inj ho
        refine .inr (.inl ⟨40, false, _, 45, rfl, rfl, rfl, (by kernel_rfl), (by kernel_rfl), fun v w' h => h, ?_⟩)
        exact wpv_of (wp_fieldB 46 _ 0 rfl 0 1 fform0 (w.heap.size + 1) 0 (hpar 3 _ (by kernel_rfl) (by kernel_rfl))) (fun _ _ => rfl)
      · obtain rfl := Option.some.inj ho
        refine .inr (.inl ⟨40, false, _, 45, rfl, rfl, rfl, (by kernel_rfl), (by kernel_rfl), fun v w' h => h, ?_⟩)
        have e46 : a.eval (.tmp 46) = .pointer (some ⟨w.heap.size + 1, 0 + 0, none⟩) := hrd 41 _ 46 rfl rfl (by kernel_rfl) (by kernel_rfl)
        exact wpv_of (wp_load_slice 40 2 _ rfl _ e46 uRowT _ (by rw [hSx.2.1.cell]; rfl)) (fun _ _ => rfl)
      · obtain rfl := Option.some.inj ho
        refine .inr (.inl ⟨40, false, _, 45, rfl, rfl, rfl, (by kernel_rfl), (by kernel_rfl), fun v w' h => h, ?_⟩)
        have e47 : a.eval (.tmp 47) = va := hrd 42 _ 47 rfl rfl (by kernel_rfl) (by kernel_rfl)
        exact wpv_call 21 [.tmp 47] _ rfl [va] (by simp only [List.map_cons, List.map_nil, e47]) Try.call21 ((kon.out w2 (haH.out.below (hB0.trans (hBl.mono hB0.size)))).mono fun _ _ ⟨h1, h2⟩ => ⟨_, h1, rfl, h2 ▸ Below.refl _ _⟩)
      · obtain rfl := Option.some.inj ho
        refine .inr (.inl ⟨40, false, _, 45, rfl, rfl, rfl, (by kernel_rfl), (by kernel_rfl), fun v w' h => h, ?_⟩)
        have e48 : a.eval (.tmp 48) = .bool false := hrd 43 _ 48 rfl rfl (by kernel_rfl) (by kernel_rfl)
        exact wpv_of (wp_move _ _ rfl e48) (fun _ _ => rfl)
      · obtain rfl := Option.some.inj ho
        exact .inr (.inr ⟨44, true, _, 49, rfl, rfl, rfl, (by kernel_rfl), (by kernel_rfl), fun v w' h => .inl h, fun _ => rfl⟩)
      · obtain rfl := Option.some.inj ho
        exact .inr (.inr ⟨44, true, _, 49, rfl, rfl, rfl, (by kernel_rfl), (by kernel_rfl), fun v w' h => .inl h, fun _ => rfl⟩)
      · obtain rfl := Option.some.inj ho
        exact .inr (.inr ⟨44, true, _, 49, rfl, rfl, rfl, (by kernel_rfl), (by kernel_rfl), fun v w' h => .inl h, fun _ => rfl⟩)
      · obtain rfl := Option.some.inj ho
        exact .inr (.inr ⟨44, true, _, 49, rfl, rfl, rfl, (by kernel_rfl), (by kernel_rfl), fun v w' h => .inl h, fun _ => rfl⟩)
      · obtain rfl := Option.some.inj ho
        refine .inr (.inl ⟨40, false, _, 45, rfl, rfl, rfl, (by kernel_rfl), (by kernel_rfl), fun v w' h => h, ?_⟩)
        have e49 : a.eval (.tmp 49) = .bool false := hrd 44 _ 49 rfl rfl (by kernel_rfl) (by kernel_rfl)
        exact wpv_of (wp_pickF _ _ _ rfl e49 (.bool false) rfl) (fun _ _ => rfl)
      · obtain rfl := Option.some.inj ho
        refine .inl ⟨rfl, ?_⟩
        have e45 : a.eval (.tmp 45) = .bool false := hrd 40 _ 45 rfl rfl (by kernel_rfl) (by kernel_rfl)
        have e54 : a.eval (.tmp 54) = .bool false := hrd 49 _ 54 rfl rfl (by kernel_rfl) (by kernel_rfl)
        exact wpv_of (wp_pickF _ _ _ rfl e45 (.bool false) e54) (fun _ _ => rfl)
      · obtain rfl := Option.some.inj ho
        refine .inl ⟨rfl, ?_⟩
        have e55 : a.eval (.tmp 55) = .bool false := hrd 50 _ 55 rfl rfl (by kernel_rfl) (by kernel_rfl)
        exact wpv_of (wp_assign _ _ rfl e55) (fun _ _ => rfl)
      · simp at ho
    intro vals xE hBx hSx hc0
    have e0 : vals 0 = .pointer (some ⟨w.heap.size + 1, 0 + 0, none⟩) := hc0 0 (by simp)
    have e1 : vals 1 = va := hc0 1 (by simp)
    have e2 : vals 2 = .int .i64 x := hc0 2 (by simp)
    have e3 : vals 3 = .bool false := hc0 3 (by simp)
    have e4 : vals 4 = .bool false := hc0 4 (by simp)
    have e5 : vals 5 = undef := hc0 5 (by simp)
    have e6 : vals 6 = undef := hc0 6 (by simp)
    have e7 : vals 7 = undef := hc0 7 (by simp)
    have e8 : vals 8 = undef := hc0 8 (by simp)
    have e9 : vals 9 = .bool false := hc0 9 (by simp)
    have e10 : vals 10 = .bool false := hc0 10 (by simp)
    have e11 : vals 11 = undef := hc0 11 (by simp)
    have e12 : vals 12 = undef := hc0 12 (by simp)
    have e13 : vals 13 = undef := hc0 13 (by simp)
    have e14 : vals 14 = undef := hc0 14 (by simp)
    have e15 : vals 15 = undef := hc0 15 (by simp)
    have e16 : vals 16 = undef := hc0 16 (by simp)
    have e17 : vals 17 = undef := hc0 17 (by simp)
    have e18 : vals 18 = .bool false := hc0 18 (by simp)
    have e19 : vals 19 = .bool false := hc0 19 (by simp)
    have e20 : vals 20 = undef := hc0 20 (by simp)
    have e21 : vals 21 = undef := hc0 21 (by simp)
    have e22 : vals 22 = undef := hc0 22 (by simp)
    have e23 : vals 23 = undef := hc0 23 (by simp)
    have e24 : vals 24 = undef := hc0 24 (by simp)
    have e25 : vals 25 = undef := hc0 25 (by simp)
    have e26 : vals 26 = undef := hc0 26 (by simp)
    have e27 : vals 27 = undef := hc0 27 (by simp)
    have e28 : vals 28 = undef := hc0 28 (by simp)
    have e29 : vals 29 = undef := hc0 29 (by simp)
    have e30 : vals 30 = undef := hc0 30 (by simp)
    have e31 : vals 31 = undef := hc0 31 (by simp)
    have e32 : vals 32 = undef := hc0 32 (by simp)
    have e33 : vals 33 = undef := hc0 33 (by simp)
    have e34 : vals 34 = undef := hc0 34 (by simp)
    have e35 : vals 35 = undef := hc0 35 (by simp)
    have e36 : vals 36 = undef := hc0 36 (by simp)
    have e37 : vals 37 = undef := hc0 37 (by simp)
    have e38 : vals 38 = undef := hc0 38 (by simp)
    have e39 : vals 39 = .bool false := hc0 39 (by simp)
    have e40 : vals 40 = .bool false := hc0 40 (by simp)
    have e41 : vals 41 = .pointer (some ⟨w.heap.size + 1, 0 + 0, none⟩) := hc0 41 (by simp)
    have e42 : vals 42 = va := hc0 42 (by simp)
    have e43 : vals 43 = .bool false := hc0 43 (by simp)
    have e44 : vals 44 = .bool false := hc0 44 (by simp)
    have e45 : vals 45 = undef := hc0 45 (by simp)
    have e46 : vals 46 = undef := hc0 46 (by simp)
    have e47 : vals 47 = undef := hc0 47 (by simp)
    have e48 : vals 48 = undef := hc0 48 (by simp)
    have e49 : vals 49 = .bool false := hc0 49 (by simp)
    have e50 : vals 50 = .bool false := hc0 50 (by simp)
    have e51 : vals 51 = .bool false := hc0 51 (by simp)
    simp only [List.length_cons, List.length_nil, Nat.zero_add, Nat.reduceAdd, List.replicate, putAll, if_true, Act.put, List.setIfInBounds_toArray, List.set_cons_zero, List.set_cons_succ, e0, e1, e2, e3, e4, e5, e6, e7, e8, e9, e10, e11, e12, e13, e14, e15, e16, e17, e18, e19, e20, e21, e22, e23, e24, e25, e26, e27, e28, e29, e30, e31, e32, e33, e34, e35, e36, e37, e38, e39, e40, e41, e42, e43, e44, e45, e46, e47, e48, e49, e50, e51]
    replace hC := hSx.1
    replace hA := hSx.2.1
    replace hb := below_step hb hBx
    clear hc0 hSx e0 e1 e2 e3 e4 e5 e6 e7 e8 e9 e10 e11 e12 e13 e14 e15 e16 e17 e18 e19 e20 e21 e22 e23 e24 e25 e26 e27 e28 e29 e30 e31 e32 e33 e34 e35 e36 e37 e38 e39 e40 e41 e42 e43 e44 e45 e46 e47 e48 e49 e50 e51
    go_wp2_with fail
    go_ret
    exact ⟨rfl, hb⟩
  obtain ⟨t2, q2⟩ : ∃ t, cmpB .leq ((La : Int) - 1) 12 = t := ⟨_, rfl⟩
  cases t2
  ·
    have hon0 : on = false := by
      cases on
      · rfl
      · exact absurd (honeH.out rfl) (fun h => by have h1 := h.2; have h2 := of_decide_eq_false q2; omega)
    subst hon0
    have hbf : b = false := bad_of hBH.out (fun h => by have := h.2.1; have := hLaH.out; have := of_decide_eq_false q2; omega)
    subst hbf
    have hB0 := hb
    go_upto_region 1 with (fail)
    refine gen_guard (w := _) (by kernel_rfl) (by kernel_rfl) (by kernel_rfl)
        (fun i => ([fun zv _ => zv = .pointer (some ⟨w.heap.size + 1, 0 + 0, none⟩), fun zv _ => zv = va, fun zv _ => zv = .int .i64 x, fun zv _ => zv = .bool true, fun zv _ => zv = .bool true, fun zv _ => zv = .pointer (some ⟨w.heap.size + 1, 0 + 0, none⟩), fun zv _ => zv = va, fun zv _ => zv = .int .i64 ((La : Int) - 1), fun zv _ => zv = .bool false, fun zv _ => zv = .bool false, fun zv _ => zv = .bool false, fun zv _ => zv = undef, fun zv _ => zv = undef, fun zv _ => zv = undef, fun zv _ => zv = undef, fun zv _ => zv = undef, fun zv _ => zv = undef, fun zv _ => zv = undef, fun zv _ => zv = .bool false, fun zv _ => zv = .bool false, fun zv _ => zv = undef, fun zv _ => zv = undef, fun zv _ => zv = undef, fun zv _ => zv = undef, fun zv _ => zv = undef, fun zv _ => zv = undef, fun zv _ => zv = undef, fun zv _ => zv = undef, fun zv _ => zv = undef, fun zv _ => zv = undef, fun zv _ => zv = undef, fun zv _ => zv = undef, fun zv _ => zv = undef, fun zv _ => zv = undef, fun zv _ => zv = undef, fun zv _ => zv = undef, fun zv _ => zv = undef, fun zv _ => zv = undef, fun zv _ => zv = undef, fun zv _ => zv = .bool false, fun zv _ => zv = .bool false, fun zv _ => zv = .pointer (some ⟨w.heap.size + 1, 0 + 0, none⟩), fun zv _ => zv = va, fun zv _ => zv = .bool false, fun zv _ => zv = .bool false, fun zv _ => zv = undef, fun zv _ => zv = undef, fun zv _ => zv = undef, fun zv _ => zv = undef, fun zv _ => zv = .bool false, fun zv _ => zv = .bool false, fun zv _ => zv = .bool false] : List (Value → World → Prop)).getD i (fun _ _ => True))
        (fun w' => Blk w' (w.heap.size) (#[.int .i64 p, vd]) 42 ∧ Blk w' (w.heap.size + 1) (#[va, .slice ob Lb cb]) 46 ∧ True) ⟨hC.drew, hA.drew, trivial⟩ (fun w1 w2 h hb => ⟨h.1.keep hb, h.2.1.keep hb, trivial⟩) ?_ ?_ ?_
    · intro i v w1 w2 h hb
      rcases i with _|_|_|_|_|_|_|_|_|_|_|_|_|_|_|_|_|_|_|_|_|_|_|_|_|_|_|_|_|_|_|_|_|_|_|_|_|_|_|_|_|_|_|_|_|_|_|_|_|_|_|_|i
      · exact h
      · exact h
      · exact h
      · exact h
      · exact h
      · exact h
      · exact h
      · exact h
      · exact h
      · exact h
      · exact h
      · exact h
      · exact h
      · exact h
      · exact h
      · exact h
      · exact h
      · exact h
      · exact h
      · exact h
      · exact h
      · exact h
      · exact h
      · exact h
      · exact h
      · exact h
      · exact h
      · exact h
      · exact h
      · exact h
      · exact h
      · exact h
      · exact h
      · exact h
      · exact h
      · exact h
      · exact h
      · exact h
      · exact h
      · exact h
      · exact h
      · exact h
      · exact h
      · exact h
      · exact h
      · exact h
      · exact h
      · exact h
      · exact h
      · exact h
      · exact h
      · exact h
      · exact h
    · intro i o ho a w2 hBl hSx hrd hpar
      rcases i with _|_|_|_|_|_|_|_|_|_|_|_|_|_|_|_|_|_|_|_|_|_|_|_|_|_|_|_|_|_|_|_|_|_|_|_|_|_|_|_|_|_|_|_|_|_|_|_|_|_|_|_|i
      · obtain rfl := Option.some.inj ho
        refine .inl ⟨rfl, ?_⟩
        exact wpv_of (wp_fieldB 46 _ 0 rfl 0 1 fform0 (w.heap.size + 1) 0 (hpar 3 _ (by kernel_rfl) (by kernel_rfl))) (fun _ _ => rfl)
      · obtain rfl := Option.some.inj ho
        refine .inl ⟨rfl, ?_⟩
        have e5 : a.eval (.tmp 5) = .pointer (some ⟨w.heap.size + 1, 0 + 0, none⟩) := hrd 0 _ 5 rfl rfl (by kernel_rfl) (by kernel_rfl)
        exact wpv_of (wp_load_slice 40 2 _ rfl _ e5 uRowT _ (by rw [hSx.2.1.cell]; rfl)) (fun _ _ => rfl)
      · obtain rfl := Option.some.inj ho
        refine .inl ⟨rfl, ?_⟩
        have e6 : a.eval (.tmp 6) = va := hrd 1 _ 6 rfl rfl (by kernel_rfl) (by kernel_rfl)
        exact wpv_call 79 [.tmp 6] _ rfl [va] (by simp only [List.map_cons, List.map_nil, e6]) Try.call79 ((kl.out w2 (haH.out.below (hB0.trans (hBl.mono hB0.size)))).mono fun _ _ ⟨h1, h2⟩ => ⟨_, h1, rfl, h2 ▸ Below.refl _ _⟩)
      · obtain rfl := Option.some.inj ho
        refine .inl ⟨rfl, ?_⟩
        have e7 : a.eval (.tmp 7) = .int .i64 x := hrd 2 _ 7 rfl rfl (by kernel_rfl) (by kernel_rfl)
        exact wpv_of (wp_cmp .eql _ _ _ _ rfl rfl .i64 _ _ e7 rfl _ q1) (fun _ _ => rfl)
      · obtain rfl := Option.some.inj ho
        refine .inl ⟨rfl, ?_⟩
        have e8 : a.eval (.tmp 8) = .bool true := hrd 3 _ 8 rfl rfl (by kernel_rfl) (by kernel_rfl)
        exact wpv_of (wp_move _ _ rfl e8) (fun _ _ => rfl)
      · obtain rfl := Option.some.inj ho
        refine .inr (.inl ⟨4, true, _, 9, rfl, rfl, rfl, (by kernel_rfl), (by kernel_rfl), fun v w' h => h, ?_⟩)
        exact wpv_of (wp_fieldB 46 _ 0 rfl 0 1 fform0 (w.heap.size + 1) 0 (hpar 3 _ (by kernel_rfl) (by kernel_rfl))) (fun _ _ => rfl)
      · obtain rfl := Option.some.inj ho
        refine .inr (.inl ⟨4, true, _, 9, rfl, rfl, rfl, (by kernel_rfl), (by kernel_rfl), fun v w' h => h, ?_⟩)
        have e10 : a.eval (.tmp 10) = .pointer (some ⟨w.heap.size + 1, 0 + 0, none⟩) := hrd 5 _ 10 rfl rfl (by kernel_rfl) (by kernel_rfl)
        exact wpv_of (wp_load_slice 40 2 _ rfl _ e10 uRowT _ (by rw [hSx.2.1.cell]; rfl)) (fun _ _ => rfl)
      · obtain rfl := Option.some.inj ho
        refine .inr (.inl ⟨4, true, _, 9, rfl, rfl, rfl, (by kernel_rfl), (by kernel_rfl), fun v w' h => h, ?_⟩)
        have e11 : a.eval (.tmp 11) = va := hrd 6 _ 11 rfl rfl (by kernel_rfl) (by kernel_rfl)
        exact wpv_call 62 [.tmp 11] _ rfl [va] (by simp only [List.map_cons, List.map_nil, e11]) Try.call62 ((kda.out w2 (haH.out.below (hB0.trans (hBl.mono hB0.size)))).mono fun _ _ ⟨h1, h2⟩ => ⟨_, h1, rfl, h2 ▸ Below.refl _ _⟩)
      · obtain rfl := Option.some.inj ho
        refine .inr (.inl ⟨4, true, _, 9, rfl, rfl, rfl, (by kernel_rfl), (by kernel_rfl), fun v w' h => h, ?_⟩)
        have e12 : a.eval (.tmp 12) = .int .i64 ((La : Int) - 1) := hrd 7 _ 12 rfl rfl (by kernel_rfl) (by kernel_rfl)
        exact wpv_of (wp_cmp .leq _ _ _ _ rfl rfl .i64 _ _ e12 rfl _ q2) (fun _ _ => rfl)
      · obtain rfl := Option.some.inj ho
        refine .inl ⟨rfl, ?_⟩
        have e9 : a.eval (.tmp 9) = .bool true := hrd 4 _ 9 rfl rfl (by kernel_rfl) (by kernel_rfl)
        have e13 : a.eval (.tmp 13) = .bool false := hrd 8 _ 13 rfl rfl (by kernel_rfl) (by kernel_rfl)
        exact wpv_of (wp_pickT _ _ _ rfl e9 (.bool false) e13) (fun _ _ => rfl)
      · obtain rfl := Option.some.inj ho
        refine .inl ⟨rfl, ?_⟩
        have e14 : a.eval (.tmp 14) = .bool false := hrd 9 _ 14 rfl rfl (by kernel_rfl) (by kernel_rfl)
        exact wpv_of (wp_move _ _ rfl e14) (fun _ _ => rfl)
      · obtain rfl := Option.some.inj ho
        exact .inr (.inr ⟨10, true, _, 15, rfl, rfl, rfl, (by kernel_rfl), (by kernel_rfl), fun v w' h => .inl h, fun _ => rfl⟩)
      · obtain rfl := Option.some.inj ho
        exact .inr (.inr ⟨10, true, _, 15, rfl, rfl, rfl, (by kernel_rfl), (by kernel_rfl), fun v w' h => .inl h, fun _ => rfl⟩)
      · obtain rfl := Option.some.inj ho
        exact .inr (.inr ⟨10, true, _, 15, rfl, rfl, rfl, (by kernel_rfl), (by kernel_rfl), fun v w' h => .inl h, fun _ => rfl⟩)
      · obtain rfl := Option.some.inj ho
        exact .inr (.inr ⟨10, true, _, 15, rfl, rfl, rfl, (by kernel_rfl), (by kernel_rfl), fun v w' h => .inl h, fun _ => rfl⟩)
      · obtain rfl := Option.some.inj ho
        exact .inr (.inr ⟨10, true, _, 15, rfl, rfl, rfl, (by kernel_rfl), (by kernel_rfl), fun v w' h => .inl h, fun _ => rfl⟩)
      · obtain rfl := Option.some.inj ho
        exact .inr (.inr ⟨10, true, _, 15, rfl, rfl, rfl, (by kernel_rfl), (by kernel_rfl), fun v w' h => .inl h, fun _ => rfl⟩)
      · obtain rfl := Option.some.inj ho
        exact .inr (.inr ⟨10, true, _, 15, rfl, rfl, rfl, (by kernel_rfl), (by kernel_rfl), fun v w' h => .inl h, fun _ => rfl⟩)
      · obtain rfl := Option.some.inj ho
        refine .inl ⟨rfl, ?_⟩
        have e15 : a.eval (.tmp 15) = .bool false := hrd 10 _ 15 rfl rfl (by kernel_rfl) (by kernel_rfl)
        exact wpv_of (wp_pickF _ _ _ rfl e15 (.bool false) rfl) (fun _ _ => rfl)
      · obtain rfl := Option.some.inj ho
        refine .inl ⟨rfl, ?_⟩
        have e23 : a.eval (.tmp 23) = .bool false := hrd 18 _ 23 rfl rfl (by kernel_rfl) (by kernel_rfl)
        exact wpv_of (wp_move _ _ rfl e23) (fun _ _ => rfl)
      · obtain rfl := Option.some.inj ho
        exact .inr (.inr ⟨19, true, _, 24, rfl, rfl, rfl, (by kernel_rfl), (by kernel_rfl), fun v w' h => .inl h, fun _ => rfl⟩)
      · obtain rfl := Option.some.inj ho
        exact .inr (.inr ⟨19, true, _, 24, rfl, rfl, rfl, (by kernel_rfl), (by kernel_rfl), fun v w' h => .inl h, fun _ => rfl⟩)
      · obtain rfl := Option.some.inj ho
        exact .inr (.inr ⟨19, true, _, 24, rfl, rfl, rfl, (by kernel_rfl), (by kernel_rfl), fun v w' h => .inl h, fun _ => rfl⟩)
      · obtain rfl := Option.some.inj ho
        exact .inr (.inr ⟨19, true, _, 24, rfl, rfl, rfl, (by kernel_rfl), (by kernel_rfl), fun v w' h => .inl h, fun _ => rfl⟩)
      · obtain rfl := Option.some.inj ho
        exact .inr (.inr ⟨19, true, _, 24, rfl, rfl, rfl, (by kernel_rfl), (by kernel_rfl), fun v w' h => .inl h, fun _ => rfl⟩)
      · obtain rfl := Option.some.inj ho
        exact .inr (.inr ⟨19, true, _, 24, rfl, rfl, rfl, (by kernel_rfl), (by kernel_rfl), fun v w' h => .inl h, fun _ => rfl⟩)
      · obtain rfl := Option.some.inj ho
        exact .inr (.inr ⟨19, true, _, 24, rfl, rfl, rfl, (by kernel_rfl), (by kernel_rfl), fun v w' h => .inl h, fun _ => rfl⟩)
      · obtain rfl := Option.some.inj ho
        exact .inr (.inr ⟨19, true, _, 24, rfl, rfl, rfl, (by kernel_rfl), (by kernel_rfl), fun v w' h => .inl h, fun _ => rfl⟩)
      · obtain rfl := Option.some.inj ho
        exact .inr (.inr ⟨19, true, _, 24, rfl, rfl, rfl, (by kernel_rfl), (by kernel_rfl), fun v w' h => .inl h, fun _ => rfl⟩)
      · obtain rfl := Option.some.inj ho
        exact .inr (.inr ⟨19, true, _, 24, rfl, rfl, rfl, (by kernel_rfl), (by kernel_rfl), fun v w' h => .inl h, fun _ => rfl⟩)
      · obtain rfl := Option.some.inj ho
        exact .inr (.inr ⟨19, true, _, 24, rfl, rfl, rfl, (by kernel_rfl), (by kernel_rfl), fun v w' h => .inl h, fun _ => rfl⟩)
      · obtain rfl := Option.some.inj ho
        exact .inr (.inr ⟨19, true, _, 24, rfl, rfl, rfl, (by kernel_rfl), (by kernel_rfl), fun v w' h => .inl h, fun _ => rfl⟩)
      · obtain rfl := Option.some.inj ho
        exact .inr (.inr ⟨19, true, _, 24, rfl, rfl, rfl, (by kernel_rfl), (by kernel_rfl), fun v w' h => .inl h, fun _ => rfl⟩)
      · obtain rfl := Option.some.inj ho
        exact .inr (.inr ⟨19, true, _, 24, rfl, rfl, rfl, (by kernel_rfl), (by kernel_rfl), fun v w' h => .inl h, fun _ => rfl⟩)
      · obtain rfl := Option.some.inj ho
        exact .inr (.inr ⟨19, true, _, 24, rfl, rfl, rfl, (by kernel_rfl), (by kernel_rfl), fun v w' h => .inl h, fun _ => rfl⟩)
      · obtain rfl := Option.some.inj ho
        exact .inr (.inr ⟨19, true, _, 24, rfl, rfl, rfl, (by kernel_rfl), (by kernel_rfl), fun v w' h => .inl h, fun _ => rfl⟩)
      · obtain rfl := Option.some.inj ho
        exact .inr (.inr ⟨19, true, _, 24, rfl, rfl, rfl, (by kernel_rfl), (by kernel_rfl), fun v w' h => .inl h, fun _ => rfl⟩)
      · obtain rfl := Option.some.inj ho
        exact .inr (.inr ⟨19, true, _, 24, rfl, rfl, rfl, (by kernel_rfl), (by kernel_rfl), fun v w' h => .inl h, fun _ => rfl⟩)
      · obtain rfl := Option.some.inj ho
        exact .inr (.inr ⟨19, true, _, 24, rfl, rfl, rfl, (by kernel_rfl), (by kernel_rfl), fun v w' h => .inl h, fun _ => rfl⟩)
      · obtain rfl := Option.some.inj ho
        refine .inl ⟨rfl, ?_⟩
        have e24 : a.eval (.tmp 24) = .bool false := hrd 19 _ 24 rfl rfl (by kernel_rfl) (by kernel_rfl)
        exact wpv_of (wp_pickF _ _ _ rfl e24 (.bool false) rfl) (fun _ _ => rfl)
      · obtain rfl := Option.some.inj ho
        refine .inl ⟨rfl, ?_⟩
        have e44 : a.eval (.tmp 44) = .bool false := hrd 39 _ 44 rfl rfl (by kernel_rfl) (by kernel_rfl)
        exact wpv_of (wp_move _ _ rfl e44) (fun _ _ => rfl)
      · obtain rfl := Option.some.inj ho
        refine .inr (.inl ⟨40, false, _, 45, rfl, rfl, rfl, (by kernel_rfl), (by kernel_rfl), fun v w' h => h, ?_⟩)
        exact wpv_of (wp_fieldB 46 _ 0 rfl 0 1 fform0 (w.heap.size + 1) 0 (hpar 3 _ (by kernel_rfl) (by kernel_rfl))) (fun _ _ => rfl)
      · obtain rfl := Option.some.inj ho
        refine .inr (.inl ⟨40, false, _, 45, rfl, rfl, rfl, (by kernel_rfl), (by kernel_rfl), fun v w' h => h, ?_⟩)
        have e46 : a.eval (.tmp 46) = .pointer (some ⟨w.heap.size + 1, 0 + 0, none⟩) := hrd 41 _ 46 rfl rfl (by kernel_rfl) (by kernel_rfl)
        exact wpv_of (wp_load_slice 40 2 _ rfl _ e46 uRowT _ (by rw [hSx.2.1.cell]; rfl)) (fun _ _ => rfl)
      · obtain rfl := Option.some.inj ho
        refine .inr (.inl ⟨40, false, _, 45, rfl, rfl, rfl, (by kernel_rfl), (by kernel_rfl), fun v w' h => h, ?_⟩)
        have e47 : a.eval (.tmp 47) = va := hrd 42 _ 47 rfl rfl (by kernel_rfl) (by kernel_rfl)
        exact wpv_call 21 [.tmp 47] _ rfl [va] (by simp only [List.map_cons, List.map_nil, e47]) Try.call21 ((kon.out w2 (haH.out.below (hB0.trans (hBl.mono hB0.size)))).mono fun _ _ ⟨h1, h2⟩ => ⟨_, h1, rfl, h2 ▸ Below.refl _ _⟩)
      · obtain rfl := Option.some.inj ho
        refine .inr (.inl ⟨40, false, _, 45, rfl, rfl, rfl, (by kernel_rfl), (by kernel_rfl), fun v w' h => h, ?_⟩)
        have e48 : a.eval (.tmp 48) = .bool false := hrd 43 _ 48 rfl rfl (by kernel_rfl) (by kernel_rfl)
        exact wpv_of (wp_move _ _ rfl e48) (fun _ _ => rfl)
      · obtain rfl := Option.some.inj ho
        exact .inr (.inr ⟨44, true, _, 49, rfl, rfl, rfl, (by kernel_rfl), (by kernel_rfl), fun v w' h => .inl h, fun _ => rfl⟩)
      · obtain rfl := Option.some.inj ho
        exact .inr (.inr ⟨44, true, _, 49, rfl, rfl, rfl, (by kernel_rfl), (by kernel_rfl), fun v w' h => .inl h, fun _ => rfl⟩)
      · obtain rfl := Option.some.inj ho
        exact .inr (.inr ⟨44, true, _, 49, rfl, rfl, rfl, (by kernel_rfl), (by kernel_rfl), fun v w' h => .inl h, fun _ => rfl⟩)
      · obtain rfl := Option.some.inj ho
        exact .inr (.inr ⟨44, true, _, 49, rfl, rfl, rfl, (by kernel_rfl), (by kernel_rfl), fun v w' h => .inl h, fun _ => rfl⟩)
      · obtain rfl := Option.some.inj ho
        refine .inr (.inl ⟨40, false, _, 45, rfl, rfl, rfl, (by kernel_rfl), (by kernel_rfl), fun v w' h => h, ?_⟩)
        have e49 : a.eval (.tmp 49) = .bool false := hrd 44 _ 49 rfl rfl (by kernel_rfl) (by kernel_rfl)
        exact wpv_of (wp_pickF _ _ _ rfl e49 (.bool false) rfl) (fun _ _ => rfl)
      · obtain rfl := Option.some.inj ho
        refine .inl ⟨rfl, ?_⟩
        have e45 : a.eval (.tmp 45) = .bool false := hrd 40 _ 45 rfl rfl (by kernel_rfl) (by kernel_rfl)
        have e54 : a.eval (.tmp 54) = .bool false := hrd 49 _ 54 rfl rfl (by kernel_rfl) (by kernel_rfl)
        exact wpv_of (wp_pickF _ _ _ rfl e45 (.bool false) e54) (fun _ _ => rfl)
      · obtain rfl := Option.some.inj ho
        refine .inl ⟨rfl, ?_⟩
        have e55 : a.eval (.tmp 55) = .bool false := hrd 50 _ 55 rfl rfl (by kernel_rfl) (by kernel_rfl)
        exact wpv_of (wp_assign _ _ rfl e55) (fun _ _ => rfl)
      · simp at ho
    intro vals xE hBx hSx hc0
    have e0 : vals 0 = .pointer (some ⟨w.heap.size + 1, 0 + 0, none⟩) := hc0 0 (by simp)
    have e1 : vals 1 = va := hc0 1 (by simp)
    have e2 : vals 2 = .int .i64 x := hc0 2 (by simp)
    have e3 : vals 3 = .bool true := hc0 3 (by simp)
    have e4 : vals 4 = .bool true := hc0 4 (by simp)
    have e5 : vals 5 = .pointer (some ⟨w.heap.size + 1, 0 + 0, none⟩) := hc0 5 (by simp)
    have e6 : vals 6 = va := hc0 6 (by simp)
    have e7 : vals 7 = .int .i64 ((La : Int) - 1) := hc0 7 (by simp)
    have e8 : vals 8 = .bool false := hc0 8 (by simp)
    have e9 : vals 9 = .bool false := hc0 9 (by simp)
    have e10 : vals 10 = .bool false := hc0 10 (by simp)
    have e11 : vals 11 = undef := hc0 11 (by simp)
    have e12 : vals 12 = undef := hc0 12 (by simp)
    have e13 : vals 13 = undef := hc0 13 (by simp)
    have e14 : vals 14 = undef := hc0 14 (by simp)
    have e15 : vals 15 = undef := hc0 15 (by simp)
    have e16 : vals 16 = undef := hc0 16 (by simp)
    have e17 : vals 17 = undef := hc0 17 (by simp)
    have e18 : vals 18 = .bool false := hc0 18 (by simp)
    have e19 : vals 19 = .bool false := hc0 19 (by simp)
    have e20 : vals 20 = undef := hc0 20 (by simp)
    have e21 : vals 21 = undef := hc0 21 (by simp)
    have e22 : vals 22 = undef := hc0 22 (by simp)
    have e23 : vals 23 = undef := hc0 23 (by simp)
    have e24 : vals 24 = undef := hc0 24 (by simp)
    have e25 : vals 25 = undef := hc0 25 (by simp)
    have e26 : vals 26 = undef := hc0 26 (by simp)
    have e27 : vals 27 = undef := hc0 27 (by simp)
    have e28 : vals 28 = undef := hc0 28 (by simp)
    have e29 : vals 29 = undef := hc0 29 (by simp)
    have e30 : vals 30 = undef := hc0 30 (by simp)
    have e31 : vals 31 = undef := hc0 31 (by simp)
    have e32 : vals 32 = undef := hc0 32 (by simp)
    have e33 : vals 33 = undef := hc0 33 (by simp)
    have e34 : vals 34 = undef := hc0 34 (by simp)
    have e35 : vals 35 = undef := hc0 35 (by simp)
    have e36 : vals 36 = undef := hc0 36 (by simp)
    have e37 : vals 37 = undef := hc0 37 (by simp)
    have e38 : vals 38 = undef := hc0 38 (by simp)
    have e39 : vals 39 = .bool false := hc0 39 (by simp)
    have e40 : vals 40 = .bool false := hc0 40 (by simp)
    have e41 : vals 41 = .pointer (some ⟨w.heap.size + 1, 0 + 0, none⟩) := hc0 41 (by simp)
    have e42 : vals 42 = va := hc0 42 (by simp)
    have e43 : vals 43 = .bool false := hc0 43 (by simp)
    have e44 : vals 44 = .bool false := hc0 44 (by simp)
    have e45 : vals 45 = undef := hc0 45 (by simp)
    have e46 : vals 46 = undef := hc0 46 (by simp)
    have e47 : vals 47 = undef := hc0 47 (by simp)
    have e48 : vals 48 = undef := hc0 48 (by simp)
    have e49 : vals 49 = .bool false := hc0 49 (by simp)
    have e50 : vals 50 = .bool false := hc0 50 (by simp)
    have e51 : vals 51 = .bool false := hc0 51 (by simp)
    simp only [List.length_cons, List.length_nil, Nat.zero_add, Nat.reduceAdd, List.replicate, putAll, if_true, Act.put, List.setIfInBounds_toArray, List.set_cons_zero, List.set_cons_succ, e0, e1, e2, e3, e4, e5, e6, e7, e8, e9, e10, e11, e12, e13, e14, e15, e16, e17, e18, e19, e20, e21, e22, e23, e24, e25, e26, e27, e28, e29, e30, e31, e32, e33, e34, e35, e36, e37, e38, e39, e40, e41, e42, e43, e44, e45, e46, e47, e48, e49, e50, e51]
    replace hC := hSx.1
    replace hA := hSx.2.1
    replace hb := below_step hb hBx
    clear hc0 hSx e0 e1 e2 e3 e4 e5 e6 e7 e8 e9 e10 e11 e12 e13 e14 e15 e16 e17 e18 e19 e20 e21 e22 e23 e24 e25 e26 e27 e28 e29 e30 e31 e32 e33 e34 e35 e36 e37 e38 e39 e40 e41 e42 e43 e44 e45 e46 e47 e48 e49 e50 e51
    go_wp2_with fail
    go_ret
    exact ⟨rfl, hb⟩
  obtain ⟨t3, q3⟩ : ∃ t, cmpB .lss ((Lb : Int) - 1) ((La : Int) - 1) = t := ⟨_, rfl⟩
  cases t3
  · cases on
    ·
      have hbf : b = false := bad_of hBH.out (fun h => by have := h.2.2.1; have := hLaH.out; have := hLbH.out; have := of_decide_eq_false q3; omega)
      subst hbf
      have hB0 := hb
      go_upto_region 1 with (fail)
      refine gen_guard (w := _) (by kernel_rfl) (by kernel_rfl) (by kernel_rfl)
          (fun i => ([fun zv _ => zv = .pointer (some ⟨w.heap.size + 1, 0 + 0, none⟩), fun zv _ => zv = va, fun zv _ => zv = .int .i64 x, fun zv _ => zv = .bool true, fun zv _ => zv = .bool true, fun zv _ => zv = .pointer (some ⟨w.heap.size + 1, 0 + 0, none⟩), fun zv _ => zv = va, fun zv _ => zv = .int .i64 ((La : Int) - 1), fun zv _ => zv = .bool true, fun zv _ => zv = .bool true, fun zv _ => zv = .bool true, fun zv _ => zv = .pointer (some ⟨w.heap.size + 1, 0 + 1, none⟩), fun zv _ => zv = .slice ob Lb cb, fun zv _ => zv = .int .i64 ((Lb : Int) - 1), fun zv _ => zv = .pointer (some ⟨w.heap.size + 1, 0 + 0, none⟩), fun zv _ => zv = va, fun zv _ => zv = .int .i64 ((La : Int) - 1), fun zv _ => zv = .bool false, fun zv _ => zv = .bool false, fun zv _ => zv = .bool false, fun zv _ => zv = undef, fun zv _ => zv = undef, fun zv _ => zv = undef, fun zv _ => zv = undef, fun zv _ => zv = undef, fun zv _ => zv = undef, fun zv _ => zv = undef, fun zv _ => zv = undef, fun zv _ => zv = undef, fun zv _ => zv = undef, fun zv _ => zv = undef, fun zv _ => zv = undef, fun zv _ => zv = undef, fun zv _ => zv = undef, fun zv _ => zv = undef, fun zv _ => zv = undef, fun zv _ => zv = undef, fun zv _ => zv = undef, fun zv _ => zv = undef, fun zv _ => zv = .bool false, fun zv _ => zv = .bool false, fun zv _ => zv = .pointer (some ⟨w.heap.size + 1, 0 + 0, none⟩), fun zv _ => zv = va, fun zv _ => zv = .bool false, fun zv _ => zv = .bool false, fun zv _ => zv = undef, fun zv _ => zv = undef, fun zv _ => zv = undef, fun zv _ => zv = undef, fun zv _ => zv = .bool false, fun zv _ => zv = .bool false, fun zv _ => zv = .bool false] : List (Value → World → Prop)).getD i (fun _ _ => True))
          (fun w' => Blk w' (w.heap.size) (#[.int .i64 p, vd]) 42 ∧ Blk w' (w.heap.size + 1) (#[va, .slice ob Lb cb]) 46 ∧ True) ⟨hC.drew, hA.drew, trivial⟩ (fun w1 w2 h hb => ⟨h.1.keep hb, h.2.1.keep hb, trivial⟩) ?_ ?_ ?_
      · intro i v w1 w2 h hb
        rcases i with _|_|_|_|_|_|_|_|_|_|_|_|_|_|_|_|_|_|_|_|_|_|_|_|_|_|_|_|_|_|_|_|_|_|_|_|_|_|_|_|_|_|_|_|_|_|_|_|_|_|_|_|i
        · exact h
        · exact h
        · exact h
        · exact h
        · exact h
        · exact h
        · exact h
        · exact h
        · exact h
        · exact h
        · exact h
        · exact h
        · exact h
        · exact h
        · exact h
        · exact h
        · exact h
        · exact h
        · exact h
        · exact h
        · exact h
        · exact h
        · exact h
        · exact h
        · exact h
        · exact h
        · exact h
        · exact h
        · exact h
        · exact h
        · exact h
        · exact h
        · exact h
        · exact h
        · exact h
        · exact h
        · exact h
        · exact h
        · exact h
        · exact h
        · exact h
        · exact h
        · exact h
        · exact h
        · exact h
        · exact h
        · exact h
        · exact h
        · exact h
        · exact h
        · exact h
        · exact h
        · exact h
      · intro i o ho a w2 hBl hSx hrd hpar
        rcases i with _|_|_|_|_|_|_|_|_|_|_|_|_|_|_|_|_|_|_|_|_|_|_|_|_|_|_|_|_|_|_|_|_|_|_|_|_|_|_|_|_|_|_|_|_|_|_|_|_|_|_|_|i
        · obtain rfl := Option.some.inj ho
          refine .inl ⟨rfl, ?_⟩
          exact wpv_of (wp_fieldB 46 _ 0 rfl 0 1 fform0 (w.heap.size + 1) 0 (hpar 3 _ (by kernel_rfl) (by kernel_rfl))) (fun _ _ => rfl)
        · obtain rfl := Option.some.inj ho
          refine .inl ⟨rfl, ?_⟩
          have e5 : a.eval (.tmp 5) = .pointer (some ⟨w.heap.size + 1, 0 + 0, none⟩) := hrd 0 _ 5 rfl rfl (by kernel_rfl) (by kernel_rfl)
          exact wpv_of (wp_load_slice 40 2 _ rfl _ e5 uRowT _ (by rw [hSx.2.1.cell]; rfl)) (fun _ _ => rfl)
        · obtain rfl := Option.some.inj ho
          refine .inl ⟨rfl, ?_⟩
          have e6 : a.eval (.tmp 6) = va := hrd 1 _ 6 rfl rfl (by kernel_rfl) (by kernel_rfl)
          exact wpv_call 79 [.tmp 6] _ rfl [va] (by simp only [List.map_cons, List.map_nil, e6]) Try.call79 ((kl.out w2 (haH.out.below (hB0.trans (hBl.mono hB0.size)))).mono fun _ _ ⟨h1, h2⟩ => ⟨_, h1, rfl, h2 ▸ Below.refl _ _⟩)
        · obtain rfl := Option.some.inj ho
          refine .inl ⟨rfl, ?_⟩
          have e7 : a.eval (.tmp 7) = .int .i64 x := hrd 2 _ 7 rfl rfl (by kernel_rfl) (by kernel_rfl)
          exact wpv_of (wp_cmp .eql _ _ _ _ rfl rfl .i64 _ _ e7 rfl _ q1) (fun _ _ => rfl)
        · obtain rfl := Option.some.inj ho
          refine .inl ⟨rfl, ?_⟩
          have e8 : a.eval (.tmp 8) = .bool true := hrd 3 _ 8 rfl rfl (by kernel_rfl) (by kernel_rfl)
          exact wpv_of (wp_move _ _ rfl e8) (fun _ _ => rfl)
        · obtain rfl := Option.some.inj ho
          refine .inr (.inl ⟨4, true, _, 9, rfl, rfl, rfl, (by kernel_rfl), (by kernel_rfl), fun v w' h => h, ?_⟩)
          exact wpv_of (wp_fieldB 46 _ 0 rfl 0 1 fform0 (w.heap.size + 1) 0 (hpar 3 _ (by kernel_rfl) (by kernel_rfl))) (fun _ _ => rfl)
        · obtain rfl := Option.some.inj ho
          refine .inr (.inl ⟨4, true, _, 9, rfl, rfl, rfl, (by kernel_rfl), (by kernel_rfl), fun v w' h => h, ?_⟩)
          have e10 : a.eval (.tmp 10) = .pointer (some ⟨w.heap.size + 1, 0 + 0, none⟩) := hrd 5 _ 10 rfl rfl (by kernel_rfl) (by kernel_rfl)
          exact wpv_of (wp_load_slice 40 2 _ rfl _ e10 uRowT _ (by rw [hSx.2.1.cell]; rfl)) (fun _ _ => rfl)
        · obtain rfl := Option.some.inj ho
          refine .inr (.inl ⟨4, true, _, 9, rfl, rfl, rfl, (by kernel_rfl), (by kernel_rfl), fun v w' h => h, ?_⟩)
          have e11 : a.eval (.tmp 11) = va := hrd 6 _ 11 rfl rfl (by kernel_rfl) (by kernel_rfl)
          exact wpv_call 62 [.tmp 11] _ rfl [va] (by simp only [List.map_cons, List.map_nil, e11]) Try.call62 ((kda.out w2 (haH.out.below (hB0.trans (hBl.mono hB0.size)))).mono fun _ _ ⟨h1, h2⟩ => ⟨_, h1, rfl, h2 ▸ Below.refl _ _⟩)
        · obtain rfl := Option.some.inj ho
          refine .inr (.inl ⟨4, true, _, 9, rfl, rfl, rfl, (by kernel_rfl), (by kernel_rfl), fun v w' h => h, ?_⟩)
          have e12 : a.eval (.tmp 12) = .int .i64 ((La : Int) - 1) := hrd 7 _ 12 rfl rfl (by kernel_rfl) (by kernel_rfl)
          exact wpv_of (wp_cmp .leq _ _ _ _ rfl rfl .i64 _ _ e12 rfl _ q2) (fun _ _ => rfl)
        · obtain rfl := Option.some.inj ho
          refine .inl ⟨rfl, ?_⟩
          have e9 : a.eval (.tmp 9) = .bool true := hrd 4 _ 9 rfl rfl (by kernel_rfl) (by kernel_rfl)
          have e13 : a.eval (.tmp 13) = .bool true := hrd 8 _ 13 rfl rfl (by kernel_rfl) (by kernel_rfl)
          exact wpv_of (wp_pickT _ _ _ rfl e9 (.bool true) e13) (fun _ _ => rfl)
        · obtain rfl := Option.some.inj ho
          refine .inl ⟨rfl, ?_⟩
          have e14 : a.eval (.tmp 14) = .bool true := hrd 9 _ 14 rfl rfl (by kernel_rfl) (by kernel_rfl)
          exact wpv_of (wp_move _ _ rfl e14) (fun _ _ => rfl)
        · obtain rfl := Option.some.inj ho
          refine .inr (.inl ⟨10, true, _, 15, rfl, rfl, rfl, (by kernel_rfl), (by kernel_rfl), fun v w' h => h, ?_⟩)
          exact wpv_of (wp_fieldB 46 _ 1 rfl 1 1 fform1 (w.heap.size + 1) 0 (hpar 3 _ (by kernel_rfl) (by kernel_rfl))) (fun _ _ => rfl)
        · obtain rfl := Option.some.inj ho
          refine .inr (.inl ⟨10, true, _, 15, rfl, rfl, rfl, (by kernel_rfl), (by kernel_rfl), fun v w' h => h, ?_⟩)
          have e16 : a.eval (.tmp 16) = .pointer (some ⟨w.heap.size + 1, 0 + 1, none⟩) := hrd 11 _ 16 rfl rfl (by kernel_rfl) (by kernel_rfl)
          exact wpv_of (wp_load_slice 40 2 _ rfl _ e16 uRowT _ (by rw [hSx.2.1.cell]; rfl)) (fun _ _ => rfl)
        · obtain rfl := Option.some.inj ho
          refine .inr (.inl ⟨10, true, _, 15, rfl, rfl, rfl, (by kernel_rfl), (by kernel_rfl), fun v w' h => h, ?_⟩)
          have e17 : a.eval (.tmp 17) = .slice ob Lb cb := hrd 12 _ 17 rfl rfl (by kernel_rfl) (by kernel_rfl)
          exact wpv_call 62 [.tmp 17] _ rfl [.slice ob Lb cb] (by simp only [List.map_cons, List.map_nil, e17]) Try.call62 ((kdb.out w2 (hbH.out.below (hB0.trans (hBl.mono hB0.size)))).mono fun _ _ ⟨h1, h2⟩ => ⟨_, h1, rfl, h2 ▸ Below.refl _ _⟩)
        · obtain rfl := Option.some.inj ho
          refine .inr (.inl ⟨10, true, _, 15, rfl, rfl, rfl, (by kernel_rfl), (by kernel_rfl), fun v w' h => h, ?_⟩)
          exact wpv_of (wp_fieldB 46 _ 0 rfl 0 1 fform0 (w.heap.size + 1) 0 (hpar 3 _ (by kernel_rfl) (by kernel_rfl))) (fun _ _ => rfl)
        · obtain rfl := Option.some.inj ho
          refine .inr (.inl ⟨10, true, _, 15, rfl, rfl, rfl, (by kernel_rfl), (by kernel_rfl), fun v w' h => h, ?_⟩)
          have e19 : a.eval (.tmp 19) = .pointer (some ⟨w.heap.size + 1, 0 + 0, none⟩) := hrd 14 _ 19 rfl rfl (by kernel_rfl) (by kernel_rfl)
          exact wpv_of (wp_load_slice 40 2 _ rfl _ e19 uRowT _ (by rw [hSx.2.1.cell]; rfl)) (fun _ _ => rfl)
        · obtain rfl := Option.some.inj ho
          refine .inr (.inl ⟨10, true, _, 15, rfl, rfl, rfl, (by kernel_rfl), (by kernel_rfl), fun v w' h => h, ?_⟩)
          have e20 : a.eval (.tmp 20) = va := hrd 15 _ 20 rfl rfl (by kernel_rfl) (by kernel_rfl)
          exact wpv_call 62 [.tmp 20] _ rfl [va] (by simp only [List.map_cons, List.map_nil, e20]) Try.call62 ((kda.out w2 (haH.out.below (hB0.trans (hBl.mono hB0.size)))).mono fun _ _ ⟨h1, h2⟩ => ⟨_, h1, rfl, h2 ▸ Below.refl _ _⟩)
        · obtain rfl := Option.some.inj ho
          refine .inr (.inl ⟨10, true, _, 15, rfl, rfl, rfl, (by kernel_rfl), (by kernel_rfl), fun v w' h => h, ?_⟩)
          have e18 : a.eval (.tmp 18) = .int .i64 ((Lb : Int) - 1) := hrd 13 _ 18 rfl rfl (by kernel_rfl) (by kernel_rfl)
          have e21 : a.eval (.tmp 21) = .int .i64 ((La : Int) - 1) := hrd 16 _ 21 rfl rfl (by kernel_rfl) (by kernel_rfl)
          exact wpv_of (wp_cmp .lss _ _ _ _ rfl rfl .i64 _ _ e18 e21 _ q3) (fun _ _ => rfl)
        · obtain rfl := Option.some.inj ho
          refine .inl ⟨rfl, ?_⟩
          have e15 : a.eval (.tmp 15) = .bool true := hrd 10 _ 15 rfl rfl (by kernel_rfl) (by kernel_rfl)
          have e22 : a.eval (.tmp 22) = .bool false := hrd 17 _ 22 rfl rfl (by kernel_rfl) (by kernel_rfl)
          exact wpv_of (wp_pickT _ _ _ rfl e15 (.bool false) e22) (fun _ _ => rfl)
        · obtain rfl := Option.some.inj ho
          refine .inl ⟨rfl, ?_⟩
          have e23 : a.eval (.tmp 23) = .bool false := hrd 18 _ 23 rfl rfl (by kernel_rfl) (by kernel_rfl)
          exact wpv_of (wp_move _ _ rfl e23) (fun _ _ => rfl)
        · obtain rfl := Option.some.inj ho
          exact .inr (.inr ⟨19, true, _, 24, rfl, rfl, rfl, (by kernel_rfl), (by kernel_rfl), fun v w' h => .inl h, fun _ => rfl⟩)
        · obtain rfl := Option.some.inj ho
          exact .inr (.inr ⟨19, true, _, 24, rfl, rfl, rfl, (by kernel_rfl), (by kernel_rfl), fun v w' h => .inl h, fun _ => rfl⟩)
        · obtain rfl := Option.some.inj ho
          exact .inr (.inr ⟨19, true, _, 24, rfl, rfl, rfl, (by kernel_rfl), (by kernel_rfl), fun v w' h => .inl h, fun _ => rfl⟩)
        · obtain rfl := Option.some.inj ho
          exact .inr (.inr ⟨19, true, _, 24, rfl, rfl, rfl, (by kernel_rfl), (by kernel_rfl), fun v w' h => .inl h, fun _ => rfl⟩)
        · obtain rfl := Option.some.inj ho
          exact .inr (.inr ⟨19, true, _, 24, rfl, rfl, rfl, (by kernel_rfl), (by kernel_rfl), fun v w' h => .inl h, fun _ => rfl⟩)
        · obtain rfl := Option.some.inj ho
          exact .inr (.inr ⟨19, true, _, 24, rfl, rfl, rfl, (by kernel_rfl), (by kernel_rfl), fun v w' h => .inl h, fun _ => rfl⟩)
        · obtain rfl := Option.some.inj ho
          exact .inr (.inr ⟨19, true, _, 24, rfl, rfl, rfl, (by kernel_rfl), (by kernel_rfl), fun v w' h => .inl h, fun _ => rfl⟩)
        · obtain rfl := Option.some.inj ho
          exact .inr (.inr ⟨19, true, _, 24, rfl, rfl, rfl, (by kernel_rfl), (by kernel_rfl), fun v w' h => .inl h, fun _ => rfl⟩)
        · obtain rfl := Option.some.inj ho
          exact .inr (.inr ⟨19, true, _, 24, rfl, rfl, rfl, (by kernel_rfl), (by kernel_rfl), fun v w' h => .inl h, fun _ => rfl⟩)
        · obtain rfl := Option.some.inj ho
          exact .inr (.inr ⟨19, true, _, 24, rfl, rfl, rfl, (by kernel_rfl), (by kernel_rfl), fun v w' h => .inl h, fun _ => rfl⟩)
        · obtain rfl := Option.some.inj ho
          exact .inr (.inr ⟨19, true, _, 24, rfl, rfl, rfl, (by kernel_rfl), (by kernel_rfl), fun v w' h => .inl h, fun _ => rfl⟩)
        · obtain rfl := Option.some.inj ho
          exact .inr (.inr ⟨19, true, _, 24, rfl, rfl, rfl, (by kernel_rfl), (by kernel_rfl), fun v w' h => .inl h, fun _ => rfl⟩)
        · obtain rfl := Option.some.inj ho
          exact .inr (.inr ⟨19, true, _, 24, rfl, rfl, rfl, (by kernel_rfl), (by kernel_rfl), fun v w' h => .inl h, fun _ => rfl⟩)
        · obtain rfl := Option.some.inj ho
          exact .inr (.inr ⟨19, true, _, 24, rfl, rfl, rfl, (by kernel_rfl), (by kernel_rfl), fun v w' h => .inl h, fun _ => rfl⟩)
        · obtain rfl := Option.some.inj ho
          exact .inr (.inr ⟨19, true, _, 24, rfl, rfl, rfl, (by kernel_rfl), (by kernel_rfl), fun v w' h => .inl h, fun _ => rfl⟩)
        · obtain rfl := Option.some.inj ho
          exact .inr (.inr ⟨19, true, _, 24, rfl, rfl, rfl, (by kernel_rfl), (by kernel_rfl), fun v w' h => .inl h, fun _ => rfl⟩)
        · obtain rfl := Option.some.inj ho
          exact .inr (.inr ⟨19, true, _, 24, rfl, rfl, rfl, (by kernel_rfl), (by kernel_rfl), fun v w' h => .inl h, fun _ => rfl⟩)
        · obtain rfl := Option.some.inj ho
          exact .inr (.inr ⟨19, true, _, 24, rfl, rfl, rfl, (by kernel_rfl), (by kernel_rfl), fun v w' h => .inl h, fun _ => rfl⟩)
        · obtain rfl := Option.some.inj ho
          exact .inr (.inr ⟨19, true, _, 24, rfl, rfl, rfl, (by kernel_rfl), (by kernel_rfl), fun v w' h => .inl h, fun _ => rfl⟩)
        · obtain rfl := Option.some.inj ho
          refine .inl ⟨rfl, ?_⟩
          have e24 : a.eval (.tmp 24) = .bool false := hrd 19 _ 24 rfl rfl (by kernel_rfl) (by kernel_rfl)
          exact wpv_of (wp_pickF _ _ _ rfl e24 (.bool false) rfl) (fun _ _ => rfl)
        · obtain rfl := Option.some.inj ho
          refine .inl ⟨rfl, ?_⟩
          have e44 : a.eval (.tmp 44) = .bool false := hrd 39 _ 44 rfl rfl (by kernel_rfl) (by kernel_rfl)
          exact wpv_of (wp_move _ _ rfl e44) (fun _ _ => rfl)
        · obtain rfl := Option.some.inj ho
          refine .inr (.inl ⟨40, false, _, 45, rfl, rfl, rfl, (by kernel_rfl), (by kernel_rfl), fun v w' h => h, ?_⟩)
          exact wpv_of (wp_fieldB 46 _ 0 rfl 0 1 fform0 (w.heap.size + 1) 0 (hpar 3 _ (by kernel_rfl) (by kernel_rfl))) (fun _ _ => rfl)
        · obtain rfl := Option.some.inj ho
          refine .inr (.inl ⟨40, false, _, 45, rfl, rfl, rfl, (by kernel_rfl), (by kernel_rfl), fun v w' h => h, ?_⟩)
          have e46 : a.eval (.tmp 46) = .pointer (some ⟨w.heap.size + 1, 0 + 0, none⟩) := hrd 41 _ 46 rfl rfl (by kernel_rfl) (by kernel_rfl)
          exact wpv_of (wp_load_slice 40 2 _ rfl _ e46 uRowT _ (by rw [hSx.2.1.cell]; rfl)) (fun _ _ => rfl)
        · obtain rfl := Option.some.inj ho
          refine .inr (.inl ⟨40, false, _, 45, rfl, rfl, rfl, (by kernel_rfl), (by kernel_rfl), fun v w' h => h, ?_⟩)
          have e47 : a.eval (.tmp 47) = va := hrd 42 _ 47 rfl rfl (by kernel_rfl) (by kernel_rfl)
          exact wpv_call 21 [.tmp 47] _ rfl [va] (by simp only [List.map_cons, List.map_nil, e47]) Try.call21 ((kon.out w2 (haH.out.below (hB0.trans (hBl.mono hB0.size)))).mono fun _ _ ⟨h1, h2⟩ => ⟨_, h1, rfl, h2 ▸ Below.refl _ _⟩)
        · obtain rfl := Option.some.inj ho
          refine .inr (.inl ⟨40, false, _, 45, rfl, rfl, rfl, (by kernel_rfl), (by kernel_rfl), fun v w' h => h, ?_⟩)
          have e48 : a.eval (.tmp 48) = .bool false := hrd 43 _ 48 rfl rfl (by kernel_rfl) (by kernel_rfl)
          exact wpv_of (wp_move _ _ rfl e48) (fun _ _ => rfl)
        · obtain rfl := Option.some.inj ho
          exact .inr (.inr ⟨44, true, _, 49, rfl, rfl, rfl, (by kernel_rfl), (by kernel_rfl), fun v w' h => .inl h, fun _ => rfl⟩)
        · obtain rfl := Option.some.inj ho
          exact .inr (.inr ⟨44, true, _, 49, rfl, rfl, rfl, (by kernel_rfl), (by kernel_rfl), fun v w' h => .inl h, fun _ => rfl⟩)
        · obtain rfl := Option.some.inj ho
          exact .inr (.inr ⟨44, true, _, 49, rfl, rfl, rfl, (by kernel_rfl), (by kernel_rfl), fun v w' h => .inl h, fun _ => rfl⟩)
        · obtain rfl := Option.some.inj ho
          exact .inr (.inr ⟨44, true, _, 49, rfl, rfl, rfl, (by kernel_rfl), (by kernel_rfl), fun v w' h => .inl h, fun _ => rfl⟩)
        · obtain rfl := Option.some.inj ho
          refine .inr (.inl ⟨40, false, _, 45, rfl, rfl, rfl, (by kernel_rfl), (by kernel_rfl), fun v w' h => h, ?_⟩)
          have e49 : a.eval (.tmp 49) = .bool false := hrd 44 _ 49 rfl rfl (by kernel_rfl) (by kernel_rfl)
          exact wpv_of (wp_pickF _ _ _ rfl e49 (.bool false) rfl) (fun _ _ => rfl)
        · obtain rfl := Option.some.inj ho
          refine .inl ⟨rfl, ?_⟩
          have e45 : a.eval (.tmp 45) = .bool false := hrd 40 _ 45 rfl rfl (by kernel_rfl) (by kernel_rfl)
          have e54 : a.eval (.tmp 54) = .bool false := hrd 49 _ 54 rfl rfl (by kernel_rfl) (by kernel_rfl)
          exact wpv_of (wp_pickF _ _ _ rfl e45 (.bool false) e54) (fun _ _ => rfl)
        · obtain rfl := Option.some.inj ho
          refine .inl ⟨rfl, ?_⟩
          have e55 : a.eval (.tmp 55) = .bool false := hrd 50 _ 55 rfl rfl (by kernel_rfl) (by kernel_rfl)
          exact wpv_of (wp_assign _ _ rfl e55) (fun _ _ => rfl)
        · simp at ho
      intro vals xE hBx hSx hc0
      have e0 : vals 0 = .pointer (some ⟨w.heap.size + 1, 0 + 0, none⟩) := hc0 0 (by simp)
      have e1 : vals 1 = va := hc0 1 (by simp)
      have e2 : vals 2 = .int .i64 x := hc0 2 (by simp)
      have e3 : vals 3 = .bool true := hc0 3 (by simp)
      have e4 : vals 4 = .bool true := hc0 4 (by simp)
      have e5 : vals 5 = .pointer (some ⟨w.heap.size + 1, 0 + 0, none⟩) := hc0 5 (by simp)
      have e6 : vals 6 = va := hc0 6 (by simp)
      have e7 : vals 7 = .int .i64 ((La : Int) - 1) := hc0 7 (by simp)
      have e8 : vals 8 = .bool true := hc0 8 (by simp)
      have e9 : vals 9 = .bool true := hc0 9 (by simp)
      have e10 : vals 10 = .bool true := hc0 10 (by simp)
      have e11 : vals 11 = .pointer (some ⟨w.heap.size + 1, 0 + 1, none⟩) := hc0 11 (by simp)
      have e12 : vals 12 = .slice ob Lb cb := hc0 12 (by simp)
      have e13 : vals 13 = .int .i64 ((Lb : Int) - 1) := hc0 13 (by simp)
      have e14 : vals 14 = .pointer (some ⟨w.heap.size + 1, 0 + 0, none⟩) := hc0 14 (by simp)
      have e15 : vals 15 = va := hc0 15 (by simp)
      have e16 : vals 16 = .int .i64 ((La : Int) - 1) := hc0 16 (by simp)
      have e17 : vals 17 = .bool false := hc0 17 (by simp)
      have e18 : vals 18 = .bool false := hc0 18 (by simp)
      have e19 : vals 19 = .bool false := hc0 19 (by simp)
      have e20 : vals 20 = undef := hc0 20 (by simp)
      have e21 : vals 21 = undef := hc0 21 (by simp)
      have e22 : vals 22 = undef := hc0 22 (by simp)
      have e23 : vals 23 = undef := hc0 23 (by simp)
      have e24 : vals 24 = undef := hc0 24 (by simp)
      have e25 : vals 25 = undef := hc0 25 (by simp)
      have e26 : vals 26 = undef := hc0 26 (by simp)
      have e27 : vals 27 = undef := hc0 27 (by simp)
      have e28 : vals 28 = undef := hc0 28 (by simp)
      have e29 : vals 29 = undef := hc0 29 (by simp)
      have e30 : vals 30 = undef := hc0 30 (by simp)
      have e31 : vals 31 = undef := hc0 31 (by simp)
      have e32 : vals 32 = undef := hc0 32 (by simp)
      have e33 : vals 33 = undef := hc0 33 (by simp)
      have e34 : vals 34 = undef := hc0 34 (by simp)
      have e35 : vals 35 = undef := hc0 35 (by simp)
      have e36 : vals 36 = undef := hc0 36 (by simp)
      have e37 : vals 37 = undef := hc0 37 (by simp)
      have e38 : vals 38 = undef := hc0 38 (by simp)
      have e39 : vals 39 = .bool false := hc0 39 (by simp)
      have e40 : vals 40 = .bool false := hc0 40 (by simp)
      have e41 : vals 41 = .pointer (some ⟨w.heap.size + 1, 0 + 0, none⟩) := hc0 41 (by simp)
      have e42 : vals 42 = va := hc0 42 (by simp)
      have e43 : vals 43 = .bool false := hc0 43 (by simp)
      have e44 : vals 44 = .bool false := hc0 44 (by simp)
      have e45 : vals 45 = undef := hc0 45 (by simp)
      have e46 : vals 46 = undef := hc0 46 (by simp)
      have e47 : vals 47 = undef := hc0 47 (by simp)
      have e48 : vals 48 = undef := hc0 48 (by simp)
      have e49 : vals 49 = .bool false := hc0 49 (by simp)
      have e50 : vals 50 = .bool false := hc0 50 (by simp)
      have e51 : vals 51 = .bool false := hc0 51 (by simp)
      simp only [List.length_cons, List.length_nil, Nat.zero_add, Nat.reduceAdd, List.replicate, putAll, if_true, Act.put, List.setIfInBounds_toArray, List.set_cons_zero, List.set_cons_succ, e0, e1, e2, e3, e4, e5, e6, e7, e8, e9, e10, e11, e12, e13, e14, e15, e16, e17, e18, e19, e20, e21, e22, e23, e24, e25, e26, e27, e28, e29, e30, e31, e32, e33, e34, e35, e36, e37, e38, e39, e40, e41, e42, e43, e44, e45, e46, e47, e48, e49, e50, e51]
      replace hC := hSx.1
      replace hA := hSx.2.1
      replace hb := below_step hb hBx
      clear hc0 hSx e0 e1 e2 e3 e4 e5 e6 e7 e8 e9 e10 e11 e12 e13 e14 e15 e16 e17 e18 e19 e20 e21 e22 e23 e24 e25 e26 e27 e28 e29 e30 e31 e32 e33 e34 e35 e36 e37 e38 e39 e40 e41 e42 e43 e44 e45 e46 e47 e48 e49 e50 e51
      go_wp2_with fail
      go_ret
      exact ⟨rfl, hb⟩
    ·
      have q5 : cmpB .eql (Lb : Int) 0 = false := by
        show ((Lb : Int) == 0) = false
        rw [beq_eq_false_iff_ne]; have h1 := (honeH.out rfl).2; have h2 := of_decide_eq_false q3; omega
      have hbf : b = false := bad_of hBH.out (fun h => by have := h.2.2.1; have := hLaH.out; have := hLbH.out; have := of_decide_eq_false q3; omega)
      subst hbf
      have hB0 := hb
      go_upto_region 1 with (fail)
      refine gen_guard (w := _) (by kernel_rfl) (by kernel_rfl) (by kernel_rfl)
          (fun i => ([fun zv _ => zv = .pointer (some ⟨w.heap.size + 1, 0 + 0, none⟩), fun zv _ => zv = va, fun zv _ => zv = .int .i64 x, fun zv _ => zv = .bool true, fun zv _ => zv = .bool true, fun zv _ => zv = .pointer (some ⟨w.heap.size + 1, 0 + 0, none⟩), fun zv _ => zv = va, fun zv _ => zv = .int .i64 ((La : Int) - 1), fun zv _ => zv = .bool true, fun zv _ => zv = .bool true, fun zv _ => zv = .bool true, fun zv _ => zv = .pointer (some ⟨w.heap.size + 1, 0 + 1, none⟩), fun zv _ => zv = .slice ob Lb cb, fun zv _ => zv = .int .i64 ((Lb : Int) - 1), fun zv _ => zv = .pointer (some ⟨w.heap.size + 1, 0 + 0, none⟩), fun zv _ => zv = va, fun zv _ => zv = .int .i64 ((La : Int) - 1), fun zv _ => zv = .bool false, fun zv _ => zv = .bool false, fun zv _ => zv = .bool false, fun zv _ => zv = undef, fun zv _ => zv = undef, fun zv _ => zv = undef, fun zv _ => zv = undef, fun zv _ => zv = undef, fun zv _ => zv = undef, fun zv _ => zv = undef, fun zv _ => zv = undef, fun zv _ => zv = undef, fun zv _ => zv = undef, fun zv _ => zv = undef, fun zv _ => zv = undef, fun zv _ => zv = undef, fun zv _ => zv = undef, fun zv _ => zv = undef, fun zv _ => zv = undef, fun zv _ => zv = undef, fun zv _ => zv = undef, fun zv _ => zv = undef, fun zv _ => zv = .bool false, fun zv _ => zv = .bool false, fun zv _ => zv = .pointer (some ⟨w.heap.size + 1, 0 + 0, none⟩), fun zv _ => zv = va, fun zv _ => zv = .bool true, fun zv _ => zv = .bool true, fun zv _ => zv = .pointer (some ⟨w.heap.size + 1, 0 + 1, none⟩), fun zv _ => zv = .slice ob Lb cb, fun zv _ => zv = .int .i64 (Lb : Int), fun zv _ => zv = .bool false, fun zv _ => zv = .bool false, fun zv _ => zv = .bool false, fun zv _ => zv = .bool false] : List (Value → World → Prop)).getD i (fun _ _ => True))
          (fun w' => Blk w' (w.heap.size) (#[.int .i64 p, vd]) 42 ∧ Blk w' (w.heap.size + 1) (#[va, .slice ob Lb cb]) 46 ∧ True) ⟨hC.drew, hA.drew, trivial⟩ (fun w1 w2 h hb => ⟨h.1.keep hb, h.2.1.keep hb, trivial⟩) ?_ ?_ ?_
      · intro i v w1 w2 h hb
        rcases i with _|_|_|_|_|_|_|_|_|_|_|_|_|_|_|_|_|_|_|_|_|_|_|_|_|_|_|_|_|_|_|_|_|_|_|_|_|_|_|_|_|_|_|_|_|_|_|_|_|_|_|_|i
        · exact h
        · exact h
        · exact h
        · exact h
        · exact h
        · exact h
        · exact h
        · exact h
        · exact h
        · exact h
        · exact h
        · exact h
        · exact h
        · exact h
        · exact h
        · exact h
        · exact h
        · exact h
        · exact h
        · exact h
        · exact h
        · exact h
        · exact h
        · exact h
        · exact h
        · exact h
        · exact h
        · exact h
        · exact h
        · exact h
        · exact h
        · exact h
        · exact h
        · exact h
        · exact h
        · exact h
        · exact h
        · exact h
        · exact h
        · exact h
        · exact h
        · exact h
        · exact h
        · exact h
        · exact h
        · exact h
        · exact h
        · exact h
        · exact h
        · exact h
        · exact h
        · exact h
        · exact h
      · intro i o ho a w2 hBl hSx hrd hpar
        rcases i with _|_|_|_|_|_|_|_|_|_|_|_|_|_|_|_|_|_|_|_|_|_|_|_|_|_|_|_|_|_|_|_|_|_|_|_|_|_|_|_|_|_|_|_|_|_|_|_|_|_|_|_|i
        · obtain rfl := Option.some.inj ho
          refine .inl ⟨rfl, ?_⟩
          exact wpv_of (wp_fieldB 46 _ 0 rfl 0 1 fform0 (w.heap.size + 1) 0 (hpar 3 _ (by kernel_rfl) (by kernel_rfl))) (fun _ _ => rfl)
        · obtain rfl := Option.some.inj ho
          refine .inl ⟨rfl, ?_⟩
          have e5 : a.eval (.tmp 5) = .pointer (some ⟨w.heap.size + 1, 0 + 0, none⟩) := hrd 0 _ 5 rfl rfl (by kernel_rfl) (by kernel_rfl)
          exact wpv_of (wp_load_slice 40 2 _ rfl _ e5 uRowT _ (by rw [hSx.2.1.cell]; rfl)) (fun _ _ => rfl)
        · obtain rfl := Option.some.inj ho
          refine .inl ⟨rfl, ?_⟩
          have e6 : a.eval (.tmp 6) = va := hrd 1 _ 6 rfl rfl (by kernel_rfl) (by kernel_rfl)
          exact wpv_call 79 [.tmp 6] _ rfl [va] (by simp only [List.map_cons, List.map_nil, e6]) Try.call79 ((kl.out w2 (haH.out.below (hB0.trans (hBl.mono hB0.size)))).mono fun _ _ ⟨h1, h2⟩ => ⟨_, h1, rfl, h2 ▸ Below.refl _ _⟩)
        · obtain rfl := Option.some.inj ho
          refine .inl ⟨rfl, ?_⟩
          have e7 : a.eval (.tmp 7) = .int .i64 x := hrd 2 _ 7 rfl rfl (by kernel_rfl) (by kernel_rfl)
          exact wpv_of (wp_cmp .eql _ _ _ _ rfl rfl .i64 _ _ e7 rfl _ q1) (fun _ _ => rfl)
        · obtain rfl := Option.some.inj ho
          refine .inl ⟨rfl, ?_⟩
          have e8 : a.eval (.tmp 8) = .bool true := hrd 3 _ 8 rfl rfl (by kernel_rfl) (by kernel_rfl)
          exact wpv_of (wp_move _ _ rfl e8) (fun _ _ => rfl)
        · obtain rfl := Option.some.inj ho
          refine .inr (.inl ⟨4, true, _, 9, rfl, rfl, rfl, (by kernel_rfl), (by kernel_rfl), fun v w' h => h, ?_⟩)
          exact wpv_of (wp_fieldB 46 _ 0 rfl 0 1 fform0 (w.heap.size + 1) 0 (hpar 3 _ (by kernel_rfl) (by kernel_rfl))) (fun _ _ => rfl)
        · obtain rfl := Option.some.inj ho
          refine .inr (.inl ⟨4, true, _, 9, rfl, rfl, rfl, (by kernel_rfl), (by kernel_rfl), fun v w' h => h, ?_⟩)
          have e10 : a.eval (.tmp 10) = .pointer (some ⟨w.heap.size + 1, 0 + 0, none⟩) := hrd 5 _ 10 rfl rfl (by kernel_rfl) (by kernel_rfl)
          exact wpv_of (wp_load_slice 40 2 _ rfl _ e10 uRowT _ (by rw [hSx.2.1.cell]; rfl)) (fun _ _ => rfl)
        · obtain rfl := Option.some.inj ho
          refine .inr (.inl ⟨4, true, _, 9, rfl, rfl, rfl, (by kernel_rfl), (by kernel_rfl), fun v w' h => h, ?_⟩)
          have e11 : a.eval (.tmp 11) = va := hrd 6 _ 11 rfl rfl (by kernel_rfl) (by kernel_rfl)
          exact wpv_call 62 [.tmp 11] _ rfl [va] (by simp only [List.map_cons, List.map_nil, e11]) Try.call62 ((kda.out w2 (haH.out.below (hB0.trans (hBl.mono hB0.size)))).mono fun _ _ ⟨h1, h2⟩ => ⟨_, h1, rfl, h2 ▸ Below.refl _ _⟩)
        · obtain rfl := Option.some.inj ho
          refine .inr (.inl ⟨4, true, _, 9, rfl, rfl, rfl, (by kernel_rfl), (by kernel_rfl), fun v w' h => h, ?_⟩)
          have e12 : a.eval (.tmp 12) = .int .i64 ((La : Int) - 1) := hrd 7 _ 12 rfl rfl (by kernel_rfl) (by kernel_rfl)
          exact wpv_of (wp_cmp .leq _ _ _ _ rfl rfl .i64 _ _ e12 rfl _ q2) (fun _ _ => rfl)
        · obtain rfl := Option.some.inj ho
          refine .inl ⟨rfl, ?_⟩
          have e9 : a.eval (.tmp 9) = .bool true := hrd 4 _ 9 rfl rfl (by kernel_rfl) (by kernel_rfl)
          have e13 : a.eval (.tmp 13) = .bool true := hrd 8 _ 13 rfl rfl (by kernel_rfl) (by kernel_rfl)
          exact wpv_of (wp_pickT _ _ _ rfl e9 (.bool true) e13) (fun _ _ => rfl)
        · obtain rfl := Option.some.inj ho
          refine .inl ⟨rfl, ?_⟩
          have e14 : a.eval (.tmp 14) = .bool true := hrd 9 _ 14 rfl rfl (by kernel_rfl) (by kernel_rfl)
          exact wpv_of (wp_move _ _ rfl e14) (fun _ _ => rfl)
        · obtain rfl := Option.some.inj ho
          refine .inr (.inl ⟨10, true, _, 15, rfl, rfl, rfl, (by kernel_rfl), (by kernel_rfl), fun v w' h => h, ?_⟩)
          exact wpv_of (wp_fieldB 46 _ 1 rfl 1 1 fform1 (w.heap.size + 1) 0 (hpar 3 _ (by kernel_rfl) (by kernel_rfl))) (fun _ _ => rfl)
        · obtain rfl := Option.some.inj ho
          refine .inr (.inl ⟨10, true, _, 15, rfl, rfl, rfl, (by kernel_rfl), (by kernel_rfl), fun v w' h => h, ?_⟩)
          have e16 : a.eval (.tmp 16) = .pointer (some ⟨w.heap.size + 1, 0 + 1, none⟩) := hrd 11 _ 16 rfl rfl (by kernel_rfl) (by kernel_rfl)
          exact wpv_of (wp_load_slice 40 2 _ rfl _ e16 uRowT _ (by rw [hSx.2.1.cell]; rfl)) (fun _ _ => rfl)
        · obtain rfl := Option.some.inj ho
          refine .inr (.inl ⟨10, true, _, 15, rfl, rfl, rfl, (by kernel_rfl), (by kernel_rfl), fun v w' h => h, ?_⟩)
          have e17 : a.eval (.tmp 17) = .slice ob Lb cb := hrd 12 _ 17 rfl rfl (by kernel_rfl) (by kernel_rfl)
          exact wpv_call 62 [.tmp 17] _ rfl [.slice ob Lb cb] (by simp only [List.map_cons, List.map_nil, e17]) Try.call62 ((kdb.out w2 (hbH.out.below (hB0.trans (hBl.mono hB0.size)))).mono fun _ _ ⟨h1, h2⟩ => ⟨_, h1, rfl, h2 ▸ Below.refl _ _⟩)
        · obtain rfl := Option.some.inj ho
          refine .inr (.inl ⟨10, true, _, 15, rfl, rfl, rfl, (by kernel_rfl), (by kernel_rfl), fun v w' h => h, ?_⟩)
          exact wpv_of (wp_fieldB 46 _ 0 rfl 0 1 fform0 (w.heap.size + 1) 0 (hpar 3 _ (by kernel_rfl) (by kernel_rfl))) (fun _ _ => rfl)
        · obtain rfl := Option.some.inj ho
          refine .inr (.inl ⟨10, true, _, 15, rfl, rfl, rfl, (by kernel_rfl), (by kernel_rfl), fun v w' h => h, ?_⟩)
          have e19 : a.eval (.tmp 19) = .pointer (some ⟨w.heap.size + 1, 0 + 0, none⟩) := hrd 14 _ 19 rfl rfl (by kernel_rfl) (by kernel_rfl)
          exact wpv_of (wp_load_slice 40 2 _ rfl _ e19 uRowT _ (by rw [hSx.2.1.cell]; rfl)) (fun _ _ => rfl)
        · obtain rfl := Option.some.inj ho
          refine .inr (.inl ⟨10, true, _, 15, rfl, rfl, rfl, (by kernel_rfl), (by kernel_rfl), fun v w' h => h, ?_⟩)
          have e20 : a.eval (.tmp 20) = va := hrd 15 _ 20 rfl rfl (by kernel_rfl) (by kernel_rfl)
          exact wpv_call 62 [.tmp 20] _ rfl [va] (by simp only [List.map_cons, List.map_nil, e20]) Try.call62 ((kda.out w2 (haH.out.below (hB0.trans (hBl.mono hB0.size)))).mono fun _ _ ⟨h1, h2⟩ => ⟨_, h1, rfl, h2 ▸ Below.refl _ _⟩)
        · obtain rfl := Option.some.inj ho
          refine .inr (.inl ⟨10, true, _, 15, rfl, rfl, rfl, (by kernel_rfl), (by kernel_rfl), fun v w' h => h, ?_⟩)
          have e18 : a.eval (.tmp 18) = .int .i64 ((Lb : Int) - 1) := hrd 13 _ 18 rfl rfl (by kernel_rfl) (by kernel_rfl)
          have e21 : a.eval (.tmp 21) = .int .i64 ((La : Int) - 1) := hrd 16 _ 21 rfl rfl (by kernel_rfl) (by kernel_rfl)
          exact wpv_of (wp_cmp .lss _ _ _ _ rfl rfl .i64 _ _ e18 e21 _ q3) (fun _ _ => rfl)
        · obtain rfl := Option.some.inj ho
          refine .inl ⟨rfl, ?_⟩
          have e15 : a.eval (.tmp 15) = .bool true := hrd 10 _ 15 rfl rfl (by kernel_rfl) (by kernel_rfl)
          have e22 : a.eval (.tmp 22) = .bool false := hrd 17 _ 22 rfl rfl (by kernel_rfl) (by kernel_rfl)
          exact wpv_of (wp_pickT _ _ _ rfl e15 (.bool false) e22) (fun _ _ => rfl)
        · obtain rfl := Option.some.inj ho
          refine .inl ⟨rfl, ?_⟩
          have e23 : a.eval (.tmp 23) = .bool false := hrd 18 _ 23 rfl rfl (by kernel_rfl) (by kernel_rfl)
          exact wpv_of (wp_move _ _ rfl e23) (fun _ _ => rfl)
        · obtain rfl := Option.some.inj ho
          exact .inr (.inr ⟨19, true, _, 24, rfl, rfl, rfl, (by kernel_rfl), (by kernel_rfl), fun v w' h => .inl h, fun _ => rfl⟩)
        · obtain rfl := Option.some.inj ho
          exact .inr (.inr ⟨19, true, _, 24, rfl, rfl, rfl, (by kernel_rfl), (by kernel_rfl), fun v w' h => .inl h, fun _ => rfl⟩)
        · obtain rfl := Option.some.inj ho
          exact .inr (.inr ⟨19, true, _, 24, rfl, rfl, rfl, (by kernel_rfl), (by kernel_rfl), fun v w' h => .inl h, fun _ => rfl⟩)
        · obtain rfl := Option.some.inj ho
          exact .inr (.inr ⟨19, true, _, 24, rfl, rfl, rfl, (by kernel_rfl), (by kernel_rfl), fun v w' h => .inl h, fun _ => rfl⟩)
        · obtain rfl := Option.some.inj ho
          exact .inr (.inr ⟨19, true, _, 24, rfl, rfl, rfl, (by kernel_rfl), (by kernel_rfl), fun v w' h => .inl h, fun _ => rfl⟩)
        · obtain rfl := Option.some.inj ho
          exact .inr (.inr ⟨19, true, _, 24, rfl, rfl, rfl, (by kernel_rfl), (by kernel_rfl), fun v w' h => .inl h, fun _ => rfl⟩)
        · obtain rfl := Option.some.inj ho
          exact .inr (.inr ⟨19, true, _, 24, rfl, rfl, rfl, (by kernel_rfl), (by kernel_rfl), fun v w' h => .inl h, fun _ => rfl⟩)
        · obtain rfl := Option.some.inj ho
          exact .inr (.inr ⟨19, true, _, 24, rfl, rfl, rfl, (by kernel_rfl), (by kernel_rfl), fun v w' h => .inl h, fun _ => rfl⟩)
        · obtain rfl := Option.some.inj ho
          exact .inr (.inr ⟨19, true, _, 24, rfl, rfl, rfl, (by kernel_rfl), (by kernel_rfl), fun v w' h => .inl h, fun _ => rfl⟩)
        · obtain rfl := Option.some.inj ho
          exact .inr (.inr ⟨19, true, _, 24, rfl, rfl, rfl, (by kernel_rfl), (by kernel_rfl), fun v w' h => .inl h, fun _ => rfl⟩)
        · obtain rfl := Option.some.inj ho
          exact .inr (.inr ⟨19, true, _, 24, rfl, rfl, rfl, (by kernel_rfl), (by kernel_rfl), fun v w' h => .inl h, fun _ => rfl⟩)
        · obtain rfl := Option.some.inj ho
          exact .inr (.inr ⟨19, true, _, 24, rfl, rfl, rfl, (by kernel_rfl), (by kernel_rfl), fun v w' h => .inl h, fun _ => rfl⟩)
        · obtain rfl := Option.some.inj ho
          exact .inr (.inr ⟨19, true, _, 24, rfl, rfl, rfl, (by kernel_rfl), (by kernel_rfl), fun v w' h => .inl h, fun _ => rfl⟩)
        · obtain rfl := Option.some.inj ho
          exact .inr (.inr ⟨19, true, _, 24, rfl, rfl, rfl, (by kernel_rfl), (by kernel_rfl), fun v w' h => .inl h, fun _ => rfl⟩)
        · obtain rfl := Option.some.inj ho
          exact .inr (.inr ⟨19, true, _, 24, rfl, rfl, rfl, (by kernel_rfl), (by kernel_rfl), fun v w' h => .inl h, fun _ => rfl⟩)
        · obtain rfl := Option.some.inj ho
          exact .inr (.inr ⟨19, true, _, 24, rfl, rfl, rfl, (by kernel_rfl), (by kernel_rfl), fun v w' h => .inl h, fun _ => rfl⟩)
        · obtain rfl := Option.some.inj ho
          exact .inr (.inr ⟨19, true, _, 24, rfl, rfl, rfl, (by kernel_rfl), (by kernel_rfl), fun v w' h => .inl h, fun _ => rfl⟩)
        · obtain rfl := Option.some.inj ho
          exact .inr (.inr ⟨19, true, _, 24, rfl, rfl, rfl, (by kernel_rfl), (by kernel_rfl), fun v w' h => .inl h, fun _ => rfl⟩)
        · obtain rfl := Option.some.inj ho
          exact .inr (.inr ⟨19, true, _, 24, rfl, rfl, rfl, (by kernel_rfl), (by kernel_rfl), fun v w' h => .inl h, fun _ => rfl⟩)
        · obtain rfl := Option.some.inj ho
          refine .inl ⟨rfl, ?_⟩
          have e24 : a.eval (.tmp 24) = .bool false := hrd 19 _ 24 rfl rfl (by kernel_rfl) (by kernel_rfl)
          exact wpv_of (wp_pickF _ _ _ rfl e24 (.bool false) rfl) (fun _ _ => rfl)
        · obtain rfl := Option.some.inj ho
          refine .inl ⟨rfl, ?_⟩
          have e44 : a.eval (.tmp 44) = .bool false := hrd 39 _ 44 rfl rfl (by kernel_rfl) (by kernel_rfl)
          exact wpv_of (wp_move _ _ rfl e44) (fun _ _ => rfl)
        · obtain rfl := Option.some.inj ho
          refine .inr (.inl ⟨40, false, _, 45, rfl, rfl, rfl, (by kernel_rfl), (by kernel_rfl), fun v w' h => h, ?_⟩)
          exact wpv_of (wp_fieldB 46 _ 0 rfl 0 1 fform0 (w.heap.size + 1) 0 (hpar 3 _ (by kernel_rfl) (by kernel_rfl))) (fun _ _ => rfl)
        · obtain rfl := Option.some.inj ho
          refine .inr (.inl ⟨40, false, _, 45, rfl, rfl, rfl, (by kernel_rfl), (by kernel_rfl), fun v w' h => h, ?_⟩)
          have e46 : a.eval (.tmp 46) = .pointer (some ⟨w.heap.size + 1, 0 + 0, none⟩) := hrd 41 _ 46 rfl rfl (by kernel_rfl) (by kernel_rfl)
          exact wpv_of (wp_load_slice 40 2 _ rfl _ e46 uRowT _ (by rw [hSx.2.1.cell]; rfl)) (fun _ _ => rfl)
        · obtain rfl := Option.some.inj ho
          refine .inr (.inl ⟨40, false, _, 45, rfl, rfl, rfl, (by kernel_rfl), (by kernel_rfl), fun v w' h => h, ?_⟩)
          have e47 : a.eval (.tmp 47) = va := hrd 42 _ 47 rfl rfl (by kernel_rfl) (by kernel_rfl)
          exact wpv_call 21 [.tmp 47] _ rfl [va] (by simp only [List.map_cons, List.map_nil, e47]) Try.call21 ((kon.out w2 (haH.out.below (hB0.trans (hBl.mono hB0.size)))).mono fun _ _ ⟨h1, h2⟩ => ⟨_, h1, rfl, h2 ▸ Below.refl _ _⟩)
        · obtain rfl := Option.some.inj ho
          refine .inr (.inl ⟨40, false, _, 45, rfl, rfl, rfl, (by kernel_rfl), (by kernel_rfl), fun v w' h => h, ?_⟩)
          have e48 : a.eval (.tmp 48) = .bool true := hrd 43 _ 48 rfl rfl (by kernel_rfl) (by kernel_rfl)
          exact wpv_of (wp_move _ _ rfl e48) (fun _ _ => rfl)
        · obtain rfl := Option.some.inj ho
          refine .inr (.inl ⟨44, true, _, 49, rfl, rfl, rfl, (by kernel_rfl), (by kernel_rfl), fun v w' h => h, ?_⟩)
          exact wpv_of (wp_fieldB 46 _ 1 rfl 1 1 fform1 (w.heap.size + 1) 0 (hpar 3 _ (by kernel_rfl) (by kernel_rfl))) (fun _ _ => rfl)
        · obtain rfl := Option.some.inj ho
          refine .inr (.inl ⟨44, true, _, 49, rfl, rfl, rfl, (by kernel_rfl), (by kernel_rfl), fun v w' h => h, ?_⟩)
          have e50 : a.eval (.tmp 50) = .pointer (some ⟨w.heap.size + 1, 0 + 1, none⟩) := hrd 45 _ 50 rfl rfl (by kernel_rfl) (by kernel_rfl)
          exact wpv_of (wp_load_slice 40 2 _ rfl _ e50 uRowT _ (by rw [hSx.2.1.cell]; rfl)) (fun _ _ => rfl)
        · obtain rfl := Option.some.inj ho
          refine .inr (.inl ⟨44, true, _, 49, rfl, rfl, rfl, (by kernel_rfl), (by kernel_rfl), fun v w' h => h, ?_⟩)
          have e51 : a.eval (.tmp 51) = .slice ob Lb cb := hrd 46 _ 51 rfl rfl (by kernel_rfl) (by kernel_rfl)
          exact wpv_of (wp_len _ 40 2 uRowT rfl _ _ _ e51) (fun _ _ => rfl)
        · obtain rfl := Option.some.inj ho
          refine .inr (.inl ⟨44, true, _, 49, rfl, rfl, rfl, (by kernel_rfl), (by kernel_rfl), fun v w' h => h, ?_⟩)
          have e52 : a.eval (.tmp 52) = .int .i64 (Lb : Int) := hrd 47 _ 52 rfl rfl (by kernel_rfl) (by kernel_rfl)
          exact wpv_of (wp_cmp .eql _ _ _ _ rfl rfl .i64 _ _ e52 rfl _ q5) (fun _ _ => rfl)
        · obtain rfl := Option.some.inj ho
          refine .inr (.inl ⟨40, false, _, 45, rfl, rfl, rfl, (by kernel_rfl), (by kernel_rfl), fun v w' h => h, ?_⟩)
          have e49 : a.eval (.tmp 49) = .bool true := hrd 44 _ 49 rfl rfl (by kernel_rfl) (by kernel_rfl)
          have e53 : a.eval (.tmp 53) = .bool false := hrd 48 _ 53 rfl rfl (by kernel_rfl) (by kernel_rfl)
          exact wpv_of (wp_pickT _ _ _ rfl e49 (.bool false) e53) (fun _ _ => rfl)
        · obtain rfl := Option.some.inj ho
          refine .inl ⟨rfl, ?_⟩
          have e45 : a.eval (.tmp 45) = .bool false := hrd 40 _ 45 rfl rfl (by kernel_rfl) (by kernel_rfl)
          have e54 : a.eval (.tmp 54) = .bool false := hrd 49 _ 54 rfl rfl (by kernel_rfl) (by kernel_rfl)
          exact wpv_of (wp_pickF _ _ _ rfl e45 (.bool false) e54) (fun _ _ => rfl)
        · obtain rfl := Option.some.inj ho
          refine .inl ⟨rfl, ?_⟩
          have e55 : a.eval (.tmp 55) = .bool false := hrd 50 _ 55 rfl rfl (by kernel_rfl) (by kernel_rfl)
          exact wpv_of (wp_assign _ _ rfl e55) (fun _ _ => rfl)
        · simp at ho
      intro vals xE hBx hSx hc0
      have e0 : vals 0 = .pointer (some ⟨w.heap.size + 1, 0 + 0, none⟩) := hc0 0 (by simp)
      have e1 : vals 1 = va := hc0 1 (by simp)
      have e2 : vals 2 = .int .i64 x := hc0 2 (by simp)
      have e3 : vals 3 = .bool true := hc0 3 (by simp)
      have e4 : vals 4 = .bool true := hc0 4 (by simp)
      have e5 : vals 5 = .pointer (some ⟨w.heap.size + 1, 0 + 0, none⟩) := hc0 5 (by simp)
      have e6 : vals 6 = va := hc0 6 (by simp)
      have e7 : vals 7 = .int .i64 ((La : Int) - 1) := hc0 7 (by simp)
      have e8 : vals 8 = .bool true := hc0 8 (by simp)
      have e9 : vals 9 = .bool true := hc0 9 (by simp)
      have e10 : vals 10 = .bool true := hc0 10 (by simp)
      have e11 : vals 11 = .pointer (some ⟨w.heap.size + 1, 0 + 1, none⟩) := hc0 11 (by simp)
      have e12 : vals 12 = .slice ob Lb cb := hc0 12 (by simp)
      have e13 : vals 13 = .int .i64 ((Lb : Int) - 1) := hc0 13 (by simp)
      have e14 : vals 14 = .pointer (some ⟨w.heap.size + 1, 0 + 0, none⟩) := hc0 14 (by simp)
      have e15 : vals 15 = va := hc0 15 (by simp)
      have e16 : vals 16 = .int .i64 ((La : Int) - 1) := hc0 16 (by simp)
      have e17 : vals 17 = .bool false := hc0 17 (by simp)
      have e18 : vals 18 = .bool false := hc0 18 (by simp)
      have e19 : vals 19 = .bool false := hc0 19 (by simp)
      have e20 : vals 20 = undef := hc0 20 (by simp)
      have e21 : vals 21 = undef := hc0 21 (by simp)
      have e22 : vals 22 = undef := hc0 22 (by simp)
      have e23 : vals 23 = undef := hc0 23 (by simp)
      have e24 : vals 24 = undef := hc0 24 (by simp)
      have e25 : vals 25 = undef := hc0 25 (by simp)
      have e26 : vals 26 = undef := hc0 26 (by simp)
      have e27 : vals 27 = undef := hc0 27 (by simp)
      have e28 : vals 28 = undef := hc0 28 (by simp)
      have e29 : vals 29 = undef := hc0 29 (by simp)
      have e30 : vals 30 = undef := hc0 30 (by simp)
      have e31 : vals 31 = undef := hc0 31 (by simp)
      have e32 : vals 32 = undef := hc0 32 (by simp)
      have e33 : vals 33 = undef := hc0 33 (by simp)
      have e34 : vals 34 = undef := hc0 34 (by simp)
      have e35 : vals 35 = undef := hc0 35 (by simp)
      have e36 : vals 36 = undef := hc0 36 (by simp)
      have e37 : vals 37 = undef := hc0 37 (by simp)
      have e38 : vals 38 = undef := hc0 38 (by simp)
      have e39 : vals 39 = .bool false := hc0 39 (by simp)
      have e40 : vals 40 = .bool false := hc0 40 (by simp)
      have e41 : vals 41 = .pointer (some ⟨w.heap.size + 1, 0 + 0, none⟩) := hc0 41 (by simp)
      have e42 : vals 42 = va := hc0 42 (by simp)
      have e43 : vals 43 = .bool true := hc0 43 (by simp)
      have e44 : vals 44 = .bool true := hc0 44 (by simp)
      have e45 : vals 45 = .pointer (some ⟨w.heap.size + 1, 0 + 1, none⟩) := hc0 45 (by simp)
      have e46 : vals 46 = .slice ob Lb cb := hc0 46 (by simp)
      have e47 : vals 47 = .int .i64 (Lb : Int) := hc0 47 (by simp)
      have e48 : vals 48 = .bool false := hc0 48 (by simp)
      have e49 : vals 49 = .bool false := hc0 49 (by simp)
      have e50 : vals 50 = .bool false := hc0 50 (by simp)
      have e51 : vals 51 = .bool false := hc0 51 (by simp)
      simp only [List.length_cons, List.length_nil, Nat.zero_add, Nat.reduceAdd, List.replicate, putAll, if_true, Act.put, List.setIfInBounds_toArray, List.set_cons_zero, List.set_cons_succ, e0, e1, e2, e3, e4, e5, e6, e7, e8, e9, e10, e11, e12, e13, e14, e15, e16, e17, e18, e19, e20, e21, e22, e23, e24, e25, e26, e27, e28, e29, e30, e31, e32, e33, e34, e35, e36, e37, e38, e39, e40, e41, e42, e43, e44, e45, e46, e47, e48, e49, e50, e51]
      replace hC := hSx.1
      replace hA := hSx.2.1
      replace hb := below_step hb hBx
      clear hc0 hSx e0 e1 e2 e3 e4 e5 e6 e7 e8 e9 e10 e11 e12 e13 e14 e15 e16 e17 e18 e19 e20 e21 e22 e23 e24 e25 e26 e27 e28 e29 e30 e31 e32 e33 e34 e35 e36 e37 e38 e39 e40 e41 e42 e43 e44 e45 e46 e47 e48 e49 e50 e51
      go_wp2_with fail
      go_ret
      exact ⟨rfl, hb⟩
  have hla : La ≤ 13 := by have := of_decide_eq_true q2; omega
  have hlb : Lb < La := by have := of_decide_eq_true q3; omega
  have hx1 : x = 1 := by have : (x == 1) = true := q1; simpa using this
  obtain ⟨hdP, hxP, hyP⟩ := hP.out
  have hne : xs ≠ [] := fun e => by have := hLaH.out; rw [e] at this; simp at this; omega
  have hsl : (mulp p ys ys).length ≤ 64 := sq_len (by have := hLbH.out; omega)
  have hsqP : P64 p (sqd p ds ys) := P64.addp ⟨hxP.pr, mulp_Po (by have := hxP.pr.pos; omega) _ _, hsl⟩ hdP (-1)
  have s1 := fun w (h : IsRow w (.slice ob Lb cb) ys) => times_any _ _ ys ys p w hxP.pr h h hyP.po.md hyP.po.md (by have := hyP.le; omega) (by have := hyP.le; omega)
  have s2 := fun v w (h : IsRow w v (mulp p ys ys)) (h2 : IsRow w vd ds) => combine_any v vd _ ds p (-1) w hxP.pr h h2 (mulp_Po (by have := hxP.pr.pos; omega) _ _).md hdP.po.md (by decide) (by decide) (by omega) (by have := hdP.le; omega)
  have s3 := fun v w (h : IsRow w v (sqd p ds ys)) (h2 : IsRow w va xs) => rest_any v va _ xs p w hxP.pr h h2 hsqP.po hxP.po hne (by have := hsqP.le; omega) (by have := hxP.le; omega)
  have hfin : rst p (sqd p ds ys) xs = [] ↔ b = true := by
    rw [← hBH.out]
    exact ⟨fun h => ⟨by rw [hxH.out]; exact hx1, by rw [hLaH.out]; exact hla, by rw [hLaH.out, hLbH.out]; exact hlb, h⟩, fun h => h.2.2.2⟩
  have hon3 : on = true → b = true := fun h => hfin.1 (by
    have e : xs = [1] := of_decide_eq_true (honH.out.trans h)
    rw [e]; exact rst_one hsqP)
  rw [show addp p (mulp p ys ys) ds (-1) = sqd p ds ys from rfl] at s2
  obtain ⟨R, hR⟩ : ∃ R, rst p (sqd p ds ys) xs = R := ⟨_, rfl⟩
  rw [hR] at s3 hfin
  obtain ⟨S, hS⟩ : ∃ S, sqd p ds ys = S := ⟨_, rfl⟩
  rw [hS] at s2 s3
  obtain ⟨M, hM⟩ : ∃ M, mulp p ys ys = M := ⟨_, rfl⟩
  rw [hM] at s1 s2
  have r1 := Lib.hid s1
  have r2 := Lib.hid s2
  have r3 := Lib.hid s3
  have hfinH := Lib.hid hfin
  have hon3H := Lib.hid hon3
  clear hla hlb hx1 hdP hxP hyP hne hsl hsqP s1 s2 s3 hfin hon3 hR hS hM
  obtain ⟨t4, q4⟩ : ∃ t, cmpB .eql (R.length : Int) 0 = t := ⟨_, rfl⟩
  have hR0 : t4 = true ↔ R = [] := by
    rw [← q4, ← List.length_eq_zero_iff]
    show ((R.length : Int) == 0) = true ↔ _
    rw [beq_iff_eq]; omega
  cases t4
  ·
    have hbf0 : b = false := by
      cases b
      · rfl
      · exact absurd (hR0.2 (hfinH.out.2 rfl)) (by simp)
    have hon0 : on = false := by
      cases on
      · rfl
      · rw [hon3H.out rfl] at hbf0; cases hbf0
    subst hon0
    subst hbf0
    have hB0 := hb
    go_upto_region 1 with (fail)
    refine gen_guard (w := _) (by kernel_rfl) (by kernel_rfl) (by kernel_rfl)
        (fun i => ([fun zv _ => zv = .pointer (some ⟨w.heap.size + 1, 0 + 0, none⟩), fun zv _ => zv = va, fun zv _ => zv = .int .i64 x, fun zv _ => zv = .bool true, fun zv _ => zv = .bool true, fun zv _ => zv = .pointer (some ⟨w.heap.size + 1, 0 + 0, none⟩), fun zv _ => zv = va, fun zv _ => zv = .int .i64 ((La : Int) - 1), fun zv _ => zv = .bool true, fun zv _ => zv = .bool true, fun zv _ => zv = .bool true, fun zv _ => zv = .pointer (some ⟨w.heap.size + 1, 0 + 1, none⟩), fun zv _ => zv = .slice ob Lb cb, fun zv _ => zv = .int .i64 ((Lb : Int) - 1), fun zv _ => zv = .pointer (some ⟨w.heap.size + 1, 0 + 0, none⟩), fun zv _ => zv = va, fun zv _ => zv = .int .i64 ((La : Int) - 1), fun zv _ => zv = .bool true, fun zv _ => zv = .bool true, fun zv _ => zv = .bool true, fun zv _ => zv = .pointer (some ⟨w.heap.size, 0 + 0, none⟩), fun zv _ => zv = .int .i64 p, fun zv _ => zv = .pointer (some ⟨w.heap.size, 0 + 0, none⟩), fun zv _ => zv = .int .i64 p, fun zv _ => zv = .pointer (some ⟨w.heap.size, 0 + 0, none⟩), fun zv _ => zv = .int .i64 p, fun zv _ => zv = .pointer (some ⟨w.heap.size + 1, 0 + 1, none⟩), fun zv _ => zv = .slice ob Lb cb, fun zv _ => zv = .pointer (some ⟨w.heap.size + 1, 0 + 1, none⟩), fun zv _ => zv = .slice ob Lb cb, fun v w => IsRow w v (M), fun zv _ => zv = .pointer (some ⟨w.heap.size, 0 + 1, none⟩), fun zv _ => zv = vd, fun v w => IsRow w v (S), fun zv _ => zv = .pointer (some ⟨w.heap.size + 1, 0 + 0, none⟩), fun zv _ => zv = va, fun v w => IsRow w v (R), fun zv _ => zv = .int .i64 (R.length : Int), fun zv _ => zv = .bool false, fun zv _ => zv = .bool false, fun zv _ => zv = .bool false, fun zv _ => zv = .pointer (some ⟨w.heap.size + 1, 0 + 0, none⟩), fun zv _ => zv = va, fun zv _ => zv = .bool false, fun zv _ => zv = .bool false, fun zv _ => zv = undef, fun zv _ => zv = undef, fun zv _ => zv = undef, fun zv _ => zv = undef, fun zv _ => zv = .bool false, fun zv _ => zv = .bool false, fun zv _ => zv = .bool false] : List (Value → World → Prop)).getD i (fun _ _ => True))
        (fun w' => Blk w' (w.heap.size) (#[.int .i64 p, vd]) 42 ∧ Blk w' (w.heap.size + 1) (#[va, .slice ob Lb cb]) 46 ∧ True) ⟨hC.drew, hA.drew, trivial⟩ (fun w1 w2 h hb => ⟨h.1.keep hb, h.2.1.keep hb, trivial⟩) ?_ ?_ ?_
    · intro i v w1 w2 h hb
      rcases i with _|_|_|_|_|_|_|_|_|_|_|_|_|_|_|_|_|_|_|_|_|_|_|_|_|_|_|_|_|_|_|_|_|_|_|_|_|_|_|_|_|_|_|_|_|_|_|_|_|_|_|_|i
      · exact h
      · exact h
      · exact h
      · exact h
      · exact h
      · exact h
      · exact h
      · exact h
      · exact h
      · exact h
      · exact h
      · exact h
      · exact h
      · exact h
      · exact h
      · exact h
      · exact h
      · exact h
      · exact h
      · exact h
      · exact h
      · exact h
      · exact h
      · exact h
      · exact h
      · exact h
      · exact h
      · exact h
      · exact h
      · exact h
      · exact (show IsRow w1 v (M) from h).below hb
      · exact h
      · exact h
      · exact (show IsRow w1 v (S) from h).below hb
      · exact h
      · exact h
      · exact (show IsRow w1 v (R) from h).below hb
      · exact h
      · exact h
      · exact h
      · exact h
      · exact h
      · exact h
      · exact h
      · exact h
      · exact h
      · exact h
      · exact h
      · exact h
      · exact h
      · exact h
      · exact h
      · exact h
    · intro i o ho a w2 hBl hSx hrd hpar
      rcases i with _|_|_|_|_|_|_|_|_|_|_|_|_|_|_|_|_|_|_|_|_|_|_|_|_|_|_|_|_|_|_|_|_|_|_|_|_|_|_|_|_|_|_|_|_|_|_|_|_|_|_|_|i
      · obtain rfl := Option.some.inj ho
        refine .inl ⟨rfl, ?_⟩
        exact wpv_of (wp_fieldB 46 _ 0 rfl 0 1 fform0 (w.heap.size + 1) 0 (hpar 3 _ (by kernel_rfl) (by kernel_rfl))) (fun _ _ => rfl)
      · obtain rfl := Option.some.inj ho
        refine .inl ⟨rfl, ?_⟩
        have e5 : a.eval (.tmp 5) = .pointer (some ⟨w.heap.size + 1, 0 + 0, none⟩) := hrd 0 _ 5 rfl rfl (by kernel_rfl) (by kernel_rfl)
        exact wpv_of (wp_load_slice 40 2 _ rfl _ e5 uRowT _ (by rw [hSx.2.1.cell]; rfl)) (fun _ _ => rfl)
      · obtain rfl := Option.some.inj ho
        refine .inl ⟨rfl, ?_⟩
        have e6 : a.eval (.tmp 6) = va := hrd 1 _ 6 rfl rfl (by kernel_rfl) (by kernel_rfl)
        exact wpv_call 79 [.tmp 6] _ rfl [va] (by simp only [List.map_cons, List.map_nil, e6]) Try.call79 ((kl.out w2 (haH.out.below (hB0.trans (hBl.mono hB0.size)))).mono fun _ _ ⟨h1, h2⟩ => ⟨_, h1, rfl, h2 ▸ Below.refl _ _⟩)
      · obtain rfl := Option.some.inj ho
        refine .inl ⟨rfl, ?_⟩
        have e7 : a.eval (.tmp 7) = .int .i64 x := hrd 2 _ 7 rfl rfl (by kernel_rfl) (by kernel_rfl)
        exact wpv_of (wp_cmp .eql _ _ _ _ rfl rfl .i64 _ _ e7 rfl _ q1) (fun _ _ => rfl)
      · obtain rfl := Option.some.inj ho
        refine .inl ⟨rfl, ?_⟩
        have e8 : a.eval (.tmp 8) = .bool true := hrd 3 _ 8 rfl rfl (by kernel_rfl) (by kernel_rfl)
        exact wpv_of (wp_move _ _ rfl e8) (fun _ _ => rfl)
      · obtain rfl := Option.some.inj ho
        refine .inr (.inl ⟨4, true, _, 9, rfl, rfl, rfl, (by kernel_rfl), (by kernel_rfl), fun v w' h => h, ?_⟩)
        exact wpv_of (wp_fieldB 46 _ 0 rfl 0 1 fform0 (w.heap.size + 1) 0 (hpar 3 _ (by kernel_rfl) (by kernel_rfl))) (fun _ _ => rfl)
      · obtain rfl := Option.some.inj ho
        refine .inr (.inl ⟨4, true, _, 9, rfl, rfl, rfl, (by kernel_rfl), (by kernel_rfl), fun v w' h => h, ?_⟩)
        have e10 : a.eval (.tmp 10) = .pointer (some ⟨w.heap.size + 1, 0 + 0, none⟩) := hrd 5 _ 10 rfl rfl (by kernel_rfl) (by kernel_rfl)
        exact wpv_of (wp_load_slice 40 2 _ rfl _ e10 uRowT _ (by rw [hSx.2.1.cell]; rfl)) (fun _ _ => rfl)
      · obtain rfl := Option.some.inj ho
        refine .inr (.inl ⟨4, true, _, 9, rfl, rfl, rfl, (by kernel_rfl), (by kernel_rfl), fun v w' h => h, ?_⟩)
        have e11 : a.eval (.tmp 11) = va := hrd 6 _ 11 rfl rfl (by kernel_rfl) (by kernel_rfl)
        exact wpv_call 62 [.tmp 11] _ rfl [va] (by simp only [List.map_cons, List.map_nil, e11]) Try.call62 ((kda.out w2 (haH.out.below (hB0.trans (hBl.mono hB0.size)))).mono fun _ _ ⟨h1, h2⟩ => ⟨_, h1, rfl, h2 ▸ Below.refl _ _⟩)
      · obtain rfl := Option.some.inj ho
        refine .inr (.inl ⟨4, true, _, 9, rfl, rfl, rfl, (by kernel_rfl), (by kernel_rfl), fun v w' h => h, ?_⟩)
        have e12 : a.eval (.tmp 12) = .int .i64 ((La : Int) - 1) := hrd 7 _ 12 rfl rfl (by kernel_rfl) (by kernel_rfl)
        exact wpv_of (wp_cmp .leq _ _ _ _ rfl rfl .i64 _ _ e12 rfl _ q2) (fun _ _ => rfl)
      · obtain rfl := Option.some.inj ho
        refine .inl ⟨rfl, ?_⟩
        have e9 : a.eval (.tmp 9) = .bool true := hrd 4 _ 9 rfl rfl (by kernel_rfl) (by kernel_rfl)
        have e13 : a.eval (.tmp 13) = .bool true := hrd 8 _ 13 rfl rfl (by kernel_rfl) (by kernel_rfl)
        exact wpv_of (wp_pickT _ _ _ rfl e9 (.bool true) e13) (fun _ _ => rfl)
      · obtain rfl := Option.some.inj ho
        refine .inl ⟨rfl, ?_⟩
        have e14 : a.eval (.tmp 14) = .bool true := hrd 9 _ 14 rfl rfl (by kernel_rfl) (by kernel_rfl)
        exact wpv_of (wp_move _ _ rfl e14) (fun _ _ => rfl)
      · obtain rfl := Option.some.inj ho
        refine .inr (.inl ⟨10, true, _, 15, rfl, rfl, rfl, (by kernel_rfl), (by kernel_rfl), fun v w' h => h, ?_⟩)
        exact wpv_of (wp_fieldB 46 _ 1 rfl 1 1 fform1 (w.heap.size + 1) 0 (hpar 3 _ (by kernel_rfl) (by kernel_rfl))) (fun _ _ => rfl)
      · obtain rfl := Option.some.inj ho
        refine .inr (.inl ⟨10, true, _, 15, rfl, rfl, rfl, (by kernel_rfl), (by kernel_rfl), fun v w' h => h, ?_⟩)
        have e16 : a.eval (.tmp 16) = .pointer (some ⟨w.heap.size + 1, 0 + 1, none⟩) := hrd 11 _ 16 rfl rfl (by kernel_rfl) (by kernel_rfl)
        exact wpv_of (wp_load_slice 40 2 _ rfl _ e16 uRowT _ (by rw [hSx.2.1.cell]; rfl)) (fun _ _ => rfl)
      · obtain rfl := Option.some.inj ho
        refine .inr (.inl ⟨10, true, _, 15, rfl, rfl, rfl, (by kernel_rfl), (by kernel_rfl), fun v w' h => h, ?_⟩)
        have e17 : a.eval (.tmp 17) = .slice ob Lb cb := hrd 12 _ 17 rfl rfl (by kernel_rfl) (by kernel_rfl)
        exact wpv_call 62 [.tmp 17] _ rfl [.slice ob Lb cb] (by simp only [List.map_cons, List.map_nil, e17]) Try.call62 ((kdb.out w2 (hbH.out.below (hB0.trans (hBl.mono hB0.size)))).mono fun _ _ ⟨h1, h2⟩ => ⟨_, h1, rfl, h2 ▸ Below.refl _ _⟩)
      · obtain rfl := Option.some.inj ho
        refine .inr (.inl ⟨10, true, _, 15, rfl, rfl, rfl, (by kernel_rfl), (by kernel_rfl), fun v w' h => h, ?_⟩)
        exact wpv_of (wp_fieldB 46 _ 0 rfl 0 1 fform0 (w.heap.size + 1) 0 (hpar 3 _ (by kernel_rfl) (by kernel_rfl))) (fun _ _ => rfl)
      · obtain rfl := Option.some.inj ho
        refine .inr (.inl ⟨10, true, _, 15, rfl, rfl, rfl, (by kernel_rfl), (by kernel_rfl), fun v w' h => h, ?_⟩)
        have e19 : a.eval (.tmp 19) = .pointer (some ⟨w.heap.size + 1, 0 + 0, none⟩) := hrd 14 _ 19 rfl rfl (by kernel_rfl) (by kernel_rfl)
        exact wpv_of (wp_load_slice 40 2 _ rfl _ e19 uRowT _ (by rw [hSx.2.1.cell]; rfl)) (fun _ _ => rfl)
      · obtain rfl := Option.some.inj ho
        refine .inr (.inl ⟨10, true, _, 15, rfl, rfl, rfl, (by kernel_rfl), (by kernel_rfl), fun v w' h => h, ?_⟩)
        have e20 : a.eval (.tmp 20) = va := hrd 15 _ 20 rfl rfl (by kernel_rfl) (by kernel_rfl)
        exact wpv_call 62 [.tmp 20] _ rfl [va] (by simp only [List.map_cons, List.map_nil, e20]) Try.call62 ((kda.out w2 (haH.out.below (hB0.trans (hBl.mono hB0.size)))).mono fun _ _ ⟨h1, h2⟩ => ⟨_, h1, rfl, h2 ▸ Below.refl _ _⟩)
      · obtain rfl := Option.some.inj ho
        refine .inr (.inl ⟨10, true, _, 15, rfl, rfl, rfl, (by kernel_rfl), (by kernel_rfl), fun v w' h => h, ?_⟩)
        have e18 : a.eval (.tmp 18) = .int .i64 ((Lb : Int) - 1) := hrd 13 _ 18 rfl rfl (by kernel_rfl) (by kernel_rfl)
        have e21 : a.eval (.tmp 21) = .int .i64 ((La : Int) - 1) := hrd 16 _ 21 rfl rfl (by kernel_rfl) (by kernel_rfl)
        exact wpv_of (wp_cmp .lss _ _ _ _ rfl rfl .i64 _ _ e18 e21 _ q3) (fun _ _ => rfl)
      · obtain rfl := Option.some.inj ho
        refine .inl ⟨rfl, ?_⟩
        have e15 : a.eval (.tmp 15) = .bool true := hrd 10 _ 15 rfl rfl (by kernel_rfl) (by kernel_rfl)
        have e22 : a.eval (.tmp 22) = .bool true := hrd 17 _ 22 rfl rfl (by kernel_rfl) (by kernel_rfl)
        exact wpv_of (wp_pickT _ _ _ rfl e15 (.bool true) e22) (fun _ _ => rfl)
      · obtain rfl := Option.some.inj ho
        refine .inl ⟨rfl, ?_⟩
        have e23 : a.eval (.tmp 23) = .bool true := hrd 18 _ 23 rfl rfl (by kernel_rfl) (by kernel_rfl)
        exact wpv_of (wp_move _ _ rfl e23) (fun _ _ => rfl)
      · obtain rfl := Option.some.inj ho
        refine .inr (.inl ⟨19, true, _, 24, rfl, rfl, rfl, (by kernel_rfl), (by kernel_rfl), fun v w' h => h, ?_⟩)
        exact wpv_of (wp_fieldB 42 _ 0 rfl 0 1 fcurve0 (w.heap.size) 0 (hpar 2 _ (by kernel_rfl) (by kernel_rfl))) (fun _ _ => rfl)
      · obtain rfl := Option.some.inj ho
        refine .inr (.inl ⟨19, true, _, 24, rfl, rfl, rfl, (by kernel_rfl), (by kernel_rfl), fun v w' h => h, ?_⟩)
        have e25 : a.eval (.tmp 25) = .pointer (some ⟨w.heap.size, 0 + 0, none⟩) := hrd 20 _ 25 rfl rfl (by kernel_rfl) (by kernel_rfl)
        exact wpv_of (wp_load_cell 38 _ rfl _ e25 .i64 uPrime _ (by rw [hSx.1.cell]; rfl)) (fun _ _ => rfl)
      · obtain rfl := Option.some.inj ho
        refine .inr (.inl ⟨19, true, _, 24, rfl, rfl, rfl, (by kernel_rfl), (by kernel_rfl), fun v w' h => h, ?_⟩)
        exact wpv_of (wp_fieldB 42 _ 0 rfl 0 1 fcurve0 (w.heap.size) 0 (hpar 2 _ (by kernel_rfl) (by kernel_rfl))) (fun _ _ => rfl)
      · obtain rfl := Option.some.inj ho
        refine .inr (.inl ⟨19, true, _, 24, rfl, rfl, rfl, (by kernel_rfl), (by kernel_rfl), fun v w' h => h, ?_⟩)
        have e27 : a.eval (.tmp 27) = .pointer (some ⟨w.heap.size, 0 + 0, none⟩) := hrd 22 _ 27 rfl rfl (by kernel_rfl) (by kernel_rfl)
        exact wpv_of (wp_load_cell 38 _ rfl _ e27 .i64 uPrime _ (by rw [hSx.1.cell]; rfl)) (fun _ _ => rfl)
      · obtain rfl := Option.some.inj ho
        refine .inr (.inl ⟨19, true, _, 24, rfl, rfl, rfl, (by kernel_rfl), (by kernel_rfl), fun v w' h => h, ?_⟩)
        exact wpv_of (wp_fieldB 42 _ 0 rfl 0 1 fcurve0 (w.heap.size) 0 (hpar 2 _ (by kernel_rfl) (by kernel_rfl))) (fun _ _ => rfl)
      · obtain rfl := Option.some.inj ho
        refine .inr (.inl ⟨19, true, _, 24, rfl, rfl, rfl, (by kernel_rfl), (by kernel_rfl), fun v w' h => h, ?_⟩)
        have e29 : a.eval (.tmp 29) = .pointer (some ⟨w.heap.size, 0 + 0, none⟩) := hrd 24 _ 29 rfl rfl (by kernel_rfl) (by kernel_rfl)
        exact wpv_of (wp_load_cell 38 _ rfl _ e29 .i64 uPrime _ (by rw [hSx.1.cell]; rfl)) (fun _ _ => rfl)
      · obtain rfl := Option.some.inj ho
        refine .inr (.inl ⟨19, true, _, 24, rfl, rfl, rfl, (by kernel_rfl), (by kernel_rfl), fun v w' h => h, ?_⟩)
        exact wpv_of (wp_fieldB 46 _ 1 rfl 1 1 fform1 (w.heap.size + 1) 0 (hpar 3 _ (by kernel_rfl) (by kernel_rfl))) (fun _ _ => rfl)
      · obtain rfl := Option.some.inj ho
        refine .inr (.inl ⟨19, true, _, 24, rfl, rfl, rfl, (by kernel_rfl), (by kernel_rfl), fun v w' h => h, ?_⟩)
        have e31 : a.eval (.tmp 31) = .pointer (some ⟨w.heap.size + 1, 0 + 1, none⟩) := hrd 26 _ 31 rfl rfl (by kernel_rfl) (by kernel_rfl)
        exact wpv_of (wp_load_slice 40 2 _ rfl _ e31 uRowT _ (by rw [hSx.2.1.cell]; rfl)) (fun _ _ => rfl)
      · obtain rfl := Option.some.inj ho
        refine .inr (.inl ⟨19, true, _, 24, rfl, rfl, rfl, (by kernel_rfl), (by kernel_rfl), fun v w' h => h, ?_⟩)
        exact wpv_of (wp_fieldB 46 _ 1 rfl 1 1 fform1 (w.heap.size + 1) 0 (hpar 3 _ (by kernel_rfl) (by kernel_rfl))) (fun _ _ => rfl)
      · obtain rfl := Option.some.inj ho
        refine .inr (.inl ⟨19, true, _, 24, rfl, rfl, rfl, (by kernel_rfl), (by kernel_rfl), fun v w' h => h, ?_⟩)
        have e33 : a.eval (.tmp 33) = .pointer (some ⟨w.heap.size + 1, 0 + 1, none⟩) := hrd 28 _ 33 rfl rfl (by kernel_rfl) (by kernel_rfl)
        exact wpv_of (wp_load_slice 40 2 _ rfl _ e33 uRowT _ (by rw [hSx.2.1.cell]; rfl)) (fun _ _ => rfl)
      · obtain rfl := Option.some.inj ho
        refine .inr (.inl ⟨19, true, _, 24, rfl, rfl, rfl, (by kernel_rfl), (by kernel_rfl), fun v w' h => h, ?_⟩)
        have e30 : a.eval (.tmp 30) = .int .i64 p := hrd 25 _ 30 rfl rfl (by kernel_rfl) (by kernel_rfl)
        have e32 : a.eval (.tmp 32) = .slice ob Lb cb := hrd 27 _ 32 rfl rfl (by kernel_rfl) (by kernel_rfl)
        have e34 : a.eval (.tmp 34) = .slice ob Lb cb := hrd 29 _ 34 rfl rfl (by kernel_rfl) (by kernel_rfl)
        exact wpv_call 50 [.tmp 30, .tmp 32, .tmp 34] _ rfl [.int .i64 p, .slice ob Lb cb, .slice ob Lb cb] (by simp only [List.map_cons, List.map_nil, e30, e32, e34]) Try.call50 (r1.out w2 (hbH.out.below (hB0.trans (hBl.mono hB0.size))))
      · obtain rfl := Option.some.inj ho
        refine .inr (.inl ⟨19, true, _, 24, rfl, rfl, rfl, (by kernel_rfl), (by kernel_rfl), fun v w' h => h, ?_⟩)
        exact wpv_of (wp_fieldB 42 _ 1 rfl 1 1 fcurve1 (w.heap.size) 0 (hpar 2 _ (by kernel_rfl) (by kernel_rfl))) (fun _ _ => rfl)
      · obtain rfl := Option.some.inj ho
        refine .inr (.inl ⟨19, true, _, 24, rfl, rfl, rfl, (by kernel_rfl), (by kernel_rfl), fun v w' h => h, ?_⟩)
        have e36 : a.eval (.tmp 36) = .pointer (some ⟨w.heap.size, 0 + 1, none⟩) := hrd 31 _ 36 rfl rfl (by kernel_rfl) (by kernel_rfl)
        exact wpv_of (wp_load_slice 40 2 _ rfl _ e36 uRowT _ (by rw [hSx.1.cell]; rfl)) (fun _ _ => rfl)
      · obtain rfl := Option.some.inj ho
        refine .inr (.inl ⟨19, true, _, 24, rfl, rfl, rfl, (by kernel_rfl), (by kernel_rfl), fun v w' h => h, ?_⟩)
        have e28 : a.eval (.tmp 28) = .int .i64 p := hrd 23 _ 28 rfl rfl (by kernel_rfl) (by kernel_rfl)
        have h35 : (fun v w => IsRow w v (M)) (a.eval (.tmp 35)) w2 := hrd 30 _ 35 rfl rfl (by kernel_rfl) (by kernel_rfl)
        generalize e35 : a.eval (.tmp 35) = v35 at h35
        have e37 : a.eval (.tmp 37) = vd := hrd 32 _ 37 rfl rfl (by kernel_rfl) (by kernel_rfl)
        exact wpv_call 69 [.tmp 28, .tmp 35, .tmp 37, .const (.int .i64 (-1))] _ rfl [.int .i64 p, v35, vd, .int .i64 (-1)] (by simp only [List.map_cons, List.map_nil, e28, e35, e37, eval_const]) Try.call69 (r2.out _ w2 h35 (hcv.out.below (hB0.trans (hBl.mono hB0.size))))
      · obtain rfl := Option.some.inj ho
        refine .inr (.inl ⟨19, true, _, 24, rfl, rfl, rfl, (by kernel_rfl), (by kernel_rfl), fun v w' h => h, ?_⟩)
        exact wpv_of (wp_fieldB 46 _ 0 rfl 0 1 fform0 (w.heap.size + 1) 0 (hpar 3 _ (by kernel_rfl) (by kernel_rfl))) (fun _ _ => rfl)
      · obtain rfl := Option.some.inj ho
        refine .inr (.inl ⟨19, true, _, 24, rfl, rfl, rfl, (by kernel_rfl), (by kernel_rfl), fun v w' h => h, ?_⟩)
        have e39 : a.eval (.tmp 39) = .pointer (some ⟨w.heap.size + 1, 0 + 0, none⟩) := hrd 34 _ 39 rfl rfl (by kernel_rfl) (by kernel_rfl)
        exact wpv_of (wp_load_slice 40 2 _ rfl _ e39 uRowT _ (by rw [hSx.2.1.cell]; rfl)) (fun _ _ => rfl)
      · obtain rfl := Option.some.inj ho
        refine .inr (.inl ⟨19, true, _, 24, rfl, rfl, rfl, (by kernel_rfl), (by kernel_rfl), fun v w' h => h, ?_⟩)
        have e26 : a.eval (.tmp 26) = .int .i64 p := hrd 21 _ 26 rfl rfl (by kernel_rfl) (by kernel_rfl)
        have h38 : (fun v w => IsRow w v (S)) (a.eval (.tmp 38)) w2 := hrd 33 _ 38 rfl rfl (by kernel_rfl) (by kernel_rfl)
        generalize e38 : a.eval (.tmp 38) = v38 at h38
        have e40 : a.eval (.tmp 40) = va := hrd 35 _ 40 rfl rfl (by kernel_rfl) (by kernel_rfl)
        exact wpv_call 49 [.tmp 26, .tmp 38, .tmp 40] _ rfl [.int .i64 p, v38, va] (by simp only [List.map_cons, List.map_nil, e26, e38, e40]) Try.call49 (r3.out _ w2 h38 (haH.out.below (hB0.trans (hBl.mono hB0.size))))
      · obtain rfl := Option.some.inj ho
        refine .inr (.inl ⟨19, true, _, 24, rfl, rfl, rfl, (by kernel_rfl), (by kernel_rfl), fun v w' h => h, ?_⟩)
        have h41 : (fun v w => IsRow w v (R)) (a.eval (.tmp 41)) w2 := hrd 36 _ 41 rfl rfl (by kernel_rfl) (by kernel_rfl)
        generalize e41 : a.eval (.tmp 41) = v41 at h41
        obtain ⟨oR, cR, eR, _⟩ := h41
        exact wpv_of (wp_len _ 40 2 uRowT rfl oR R.length cR (e41.trans eR)) (fun _ _ => rfl)
      · obtain rfl := Option.some.inj ho
        refine .inr (.inl ⟨19, true, _, 24, rfl, rfl, rfl, (by kernel_rfl), (by kernel_rfl), fun v w' h => h, ?_⟩)
        have e42 : a.eval (.tmp 42) = .int .i64 (R.length : Int) := hrd 37 _ 42 rfl rfl (by kernel_rfl) (by kernel_rfl)
        exact wpv_of (wp_cmp .eql _ _ _ _ rfl rfl .i64 _ _ e42 rfl _ q4) (fun _ _ => rfl)
      · obtain rfl := Option.some.inj ho
        refine .inl ⟨rfl, ?_⟩
        have e24 : a.eval (.tmp 24) = .bool true := hrd 19 _ 24 rfl rfl (by kernel_rfl) (by kernel_rfl)
        have e43 : a.eval (.tmp 43) = .bool false := hrd 38 _ 43 rfl rfl (by kernel_rfl) (by kernel_rfl)
        exact wpv_of (wp_pickT _ _ _ rfl e24 (.bool false) e43) (fun _ _ => rfl)
      · obtain rfl := Option.some.inj ho
        refine .inl ⟨rfl, ?_⟩
        have e44 : a.eval (.tmp 44) = .bool false := hrd 39 _ 44 rfl rfl (by kernel_rfl) (by kernel_rfl)
        exact wpv_of (wp_move _ _ rfl e44) (fun _ _ => rfl)
      · obtain rfl := Option.some.inj ho
        refine .inr (.inl ⟨40, false, _, 45, rfl, rfl, rfl, (by kernel_rfl), (by kernel_rfl), fun v w' h => h, ?_⟩)
        exact wpv_of (wp_fieldB 46 _ 0 rfl 0 1 fform0 (w.heap.size + 1) 0 (hpar 3 _ (by kernel_rfl) (by kernel_rfl))) (fun _ _ => rfl)
      · obtain rfl := Option.some.inj ho
        refine .inr (.inl ⟨40, false, _, 45, rfl, rfl, rfl, (by kernel_rfl), (by kernel_rfl), fun v w' h => h, ?_⟩)
        have e46 : a.eval (.tmp 46) = .pointer (some ⟨w.heap.size + 1, 0 + 0, none⟩) := hrd 41 _ 46 rfl rfl (by kernel_rfl) (by kernel_rfl)
        exact wpv_of (wp_load_slice 40 2 _ rfl _ e46 uRowT _ (by rw [hSx.2.1.cell]; rfl)) (fun _ _ => rfl)
      · obtain rfl := Option.some.inj ho
        refine .inr (.inl ⟨40, false, _, 45, rfl, rfl, rfl, (by kernel_rfl), (by kernel_rfl), fun v w' h => h, ?_⟩)
        have e47 : a.eval (.tmp 47) = va := hrd 42 _ 47 rfl rfl (by kernel_rfl) (by kernel_rfl)
        exact wpv_call 21 [.tmp 47] _ rfl [va] (by simp only [List.map_cons, List.map_nil, e47]) Try.call21 ((kon.out w2 (haH.out.below (hB0.trans (hBl.mono hB0.size)))).mono fun _ _ ⟨h1, h2⟩ => ⟨_, h1, rfl, h2 ▸ Below.refl _ _⟩)
      · obtain rfl := Option.some.inj ho
        refine .inr (.inl ⟨40, false, _, 45, rfl, rfl, rfl, (by kernel_rfl), (by kernel_rfl), fun v w' h => h, ?_⟩)
        have e48 : a.eval (.tmp 48) = .bool false := hrd 43 _ 48 rfl rfl (by kernel_rfl) (by kernel_rfl)
        exact wpv_of (wp_move _ _ rfl e48) (fun _ _ => rfl)
      · obtain rfl := Option.some.inj ho
        exact .inr (.inr ⟨44, true, _, 49, rfl, rfl, rfl, (by kernel_rfl), (by kernel_rfl), fun v w' h => .inl h, fun _ => rfl⟩)
      · obtain rfl := Option.some.inj ho
        exact .inr (.inr ⟨44, true, _, 49, rfl, rfl, rfl, (by kernel_rfl), (by kernel_rfl), fun v w' h => .inl h, fun _ => rfl⟩)
      · obtain rfl := Option.some.inj ho
        exact .inr (.inr ⟨44, true, _, 49, rfl, rfl, rfl, (by kernel_rfl), (by kernel_rfl), fun v w' h => .inl h, fun _ => rfl⟩)
      · obtain rfl := Option.some.inj ho
        exact .inr (.inr ⟨44, true, _, 49, rfl, rfl, rfl, (by kernel_rfl), (by kernel_rfl), fun v w' h => .inl h, fun _ => rfl⟩)
      · obtain rfl := Option.some.inj ho
        refine .inr (.inl ⟨40, false, _, 45, rfl, rfl, rfl, (by kernel_rfl), (by kernel_rfl), fun v w' h => h, ?_⟩)
        have e49 : a.eval (.tmp 49) = .bool false := hrd 44 _ 49 rfl rfl (by kernel_rfl) (by kernel_rfl)
        exact wpv_of (wp_pickF _ _ _ rfl e49 (.bool false) rfl) (fun _ _ => rfl)
      · obtain rfl := Option.some.inj ho
        refine .inl ⟨rfl, ?_⟩
        have e45 : a.eval (.tmp 45) = .bool false := hrd 40 _ 45 rfl rfl (by kernel_rfl) (by kernel_rfl)
        have e54 : a.eval (.tmp 54) = .bool false := hrd 49 _ 54 rfl rfl (by kernel_rfl) (by kernel_rfl)
        exact wpv_of (wp_pickF _ _ _ rfl e45 (.bool false) e54) (fun _ _ => rfl)
      · obtain rfl := Option.some.inj ho
        refine .inl ⟨rfl, ?_⟩
        have e55 : a.eval (.tmp 55) = .bool false := hrd 50 _ 55 rfl rfl (by kernel_rfl) (by kernel_rfl)
        exact wpv_of (wp_assign _ _ rfl e55) (fun _ _ => rfl)
      · simp at ho
    intro vals xE hBx hSx hc0
    have e0 : vals 0 = .pointer (some ⟨w.heap.size + 1, 0 + 0, none⟩) := hc0 0 (by simp)
    have e1 : vals 1 = va := hc0 1 (by simp)
    have e2 : vals 2 = .int .i64 x := hc0 2 (by simp)
    have e3 : vals 3 = .bool true := hc0 3 (by simp)
    have e4 : vals 4 = .bool true := hc0 4 (by simp)
    have e5 : vals 5 = .pointer (some ⟨w.heap.size + 1, 0 + 0, none⟩) := hc0 5 (by simp)
    have e6 : vals 6 = va := hc0 6 (by simp)
    have e7 : vals 7 = .int .i64 ((La : Int) - 1) := hc0 7 (by simp)
    have e8 : vals 8 = .bool true := hc0 8 (by simp)
    have e9 : vals 9 = .bool true := hc0 9 (by simp)
    have e10 : vals 10 = .bool true := hc0 10 (by simp)
    have e11 : vals 11 = .pointer (some ⟨w.heap.size + 1, 0 + 1, none⟩) := hc0 11 (by simp)
    have e12 : vals 12 = .slice ob Lb cb := hc0 12 (by simp)
    have e13 : vals 13 = .int .i64 ((Lb : Int) - 1) := hc0 13 (by simp)
    have e14 : vals 14 = .pointer (some ⟨w.heap.size + 1, 0 + 0, none⟩) := hc0 14 (by simp)
    have e15 : vals 15 = va := hc0 15 (by simp)
    have e16 : vals 16 = .int .i64 ((La : Int) - 1) := hc0 16 (by simp)
    have e17 : vals 17 = .bool true := hc0 17 (by simp)
    have e18 : vals 18 = .bool true := hc0 18 (by simp)
    have e19 : vals 19 = .bool true := hc0 19 (by simp)
    have e20 : vals 20 = .pointer (some ⟨w.heap.size, 0 + 0, none⟩) := hc0 20 (by simp)
    have e21 : vals 21 = .int .i64 p := hc0 21 (by simp)
    have e22 : vals 22 = .pointer (some ⟨w.heap.size, 0 + 0, none⟩) := hc0 22 (by simp)
    have e23 : vals 23 = .int .i64 p := hc0 23 (by simp)
    have e24 : vals 24 = .pointer (some ⟨w.heap.size, 0 + 0, none⟩) := hc0 24 (by simp)
    have e25 : vals 25 = .int .i64 p := hc0 25 (by simp)
    have e26 : vals 26 = .pointer (some ⟨w.heap.size + 1, 0 + 1, none⟩) := hc0 26 (by simp)
    have e27 : vals 27 = .slice ob Lb cb := hc0 27 (by simp)
    have e28 : vals 28 = .pointer (some ⟨w.heap.size + 1, 0 + 1, none⟩) := hc0 28 (by simp)
    have e29 : vals 29 = .slice ob Lb cb := hc0 29 (by simp)
    have cE30 : (fun v w => IsRow w v (M)) (vals 30) xE := hc0 30 (by simp)
    generalize ev30 : vals 30 = uE30 at cE30
    have e31 : vals 31 = .pointer (some ⟨w.heap.size, 0 + 1, none⟩) := hc0 31 (by simp)
    have e32 : vals 32 = vd := hc0 32 (by simp)
    have cE33 : (fun v w => IsRow w v (S)) (vals 33) xE := hc0 33 (by simp)
    generalize ev33 : vals 33 = uE33 at cE33
    have e34 : vals 34 = .pointer (some ⟨w.heap.size + 1, 0 + 0, none⟩) := hc0 34 (by simp)
    have e35 : vals 35 = va := hc0 35 (by simp)
    have cE36 : (fun v w => IsRow w v (R)) (vals 36) xE := hc0 36 (by simp)
    generalize ev36 : vals 36 = uE36 at cE36
    have e37 : vals 37 = .int .i64 (R.length : Int) := hc0 37 (by simp)
    have e38 : vals 38 = .bool false := hc0 38 (by simp)
    have e39 : vals 39 = .bool false := hc0 39 (by simp)
    have e40 : vals 40 = .bool false := hc0 40 (by simp)
    have e41 : vals 41 = .pointer (some ⟨w.heap.size + 1, 0 + 0, none⟩) := hc0 41 (by simp)
    have e42 : vals 42 = va := hc0 42 (by simp)
    have e43 : vals 43 = .bool false := hc0 43 (by simp)
    have e44 : vals 44 = .bool false := hc0 44 (by simp)
    have e45 : vals 45 = undef := hc0 45 (by simp)
    have e46 : vals 46 = undef := hc0 46 (by simp)
    have e47 : vals 47 = undef := hc0 47 (by simp)
    have e48 : vals 48 = undef := hc0 48 (by simp)
    have e49 : vals 49 = .bool false := hc0 49 (by simp)
    have e50 : vals 50 = .bool false := hc0 50 (by simp)
    have e51 : vals 51 = .bool false := hc0 51 (by simp)
    simp only [List.length_cons, List.length_nil, Nat.zero_add, Nat.reduceAdd, List.replicate, putAll, if_true, Act.put, List.setIfInBounds_toArray, List.set_cons_zero, List.set_cons_succ, e0, e1, e2, e3, e4, e5, e6, e7, e8, e9, e10, e11, e12, e13, e14, e15, e16, e17, e18, e19, e20, e21, e22, e23, e24, e25, e26, e27, e28, e29, ev30, e31, e32, ev33, e34, e35, ev36, e37, e38, e39, e40, e41, e42, e43, e44, e45, e46, e47, e48, e49, e50, e51]
    replace hC := hSx.1
    replace hA := hSx.2.1
    replace hb := below_step hb hBx
    clear hc0 hSx e0 e1 e2 e3 e4 e5 e6 e7 e8 e9 e10 e11 e12 e13 e14 e15 e16 e17 e18 e19 e20 e21 e22 e23 e24 e25 e26 e27 e28 e29 ev30 e31 e32 ev33 e34 e35 ev36 e37 e38 e39 e40 e41 e42 e43 e44 e45 e46 e47 e48 e49 e50 e51
    go_wp2_with fail
    go_ret
    exact ⟨rfl, hb⟩
  ·
    have hbt : b = true := hfinH.out.1 (hR0.1 rfl)
    subst hbt
    have hB0 := hb
    go_upto_region 1 with (fail)
    refine gen_guard (w := _) (by kernel_rfl) (by kernel_rfl) (by kernel_rfl)
        (fun i => ([fun zv _ => zv = .pointer (some ⟨w.heap.size + 1, 0 + 0, none⟩), fun zv _ => zv = va, fun zv _ => zv = .int .i64 x, fun zv _ => zv = .bool true, fun zv _ => zv = .bool true, fun zv _ => zv = .pointer (some ⟨w.heap.size + 1, 0 + 0, none⟩), fun zv _ => zv = va, fun zv _ => zv = .int .i64 ((La : Int) - 1), fun zv _ => zv = .bool true, fun zv _ => zv = .bool true, fun zv _ => zv = .bool true, fun zv _ => zv = .pointer (some ⟨w.heap.size + 1, 0 + 1, none⟩), fun zv _ => zv = .slice ob Lb cb, fun zv _ => zv = .int .i64 ((Lb : Int) - 1), fun zv _ => zv = .pointer (some ⟨w.heap.size + 1, 0 + 0, none⟩), fun zv _ => zv = va, fun zv _ => zv = .int .i64 ((La : Int) - 1), fun zv _ => zv = .bool true, fun zv _ => zv = .bool true, fun zv _ => zv = .bool true, fun zv _ => zv = .pointer (some ⟨w.heap.size, 0 + 0, none⟩), fun zv _ => zv = .int .i64 p, fun zv _ => zv = .pointer (some ⟨w.heap.size, 0 + 0, none⟩), fun zv _ => zv = .int .i64 p, fun zv _ => zv = .pointer (some ⟨w.heap.size, 0 + 0, none⟩), fun zv _ => zv = .int .i64 p, fun zv _ => zv = .pointer (some ⟨w.heap.size + 1, 0 + 1, none⟩), fun zv _ => zv = .slice ob Lb cb, fun zv _ => zv = .pointer (some ⟨w.heap.size + 1, 0 + 1, none⟩), fun zv _ => zv = .slice ob Lb cb, fun v w => IsRow w v (M), fun zv _ => zv = .pointer (some ⟨w.heap.size, 0 + 1, none⟩), fun zv _ => zv = vd, fun v w => IsRow w v (S), fun zv _ => zv = .pointer (some ⟨w.heap.size + 1, 0 + 0, none⟩), fun zv _ => zv = va, fun v w => IsRow w v (R), fun zv _ => zv = .int .i64 (R.length : Int), fun zv _ => zv = .bool true, fun zv _ => zv = .bool true, fun zv _ => zv = .bool true, fun zv _ => zv = undef, fun zv _ => zv = undef, fun zv _ => zv = undef, fun zv _ => zv = undef, fun zv _ => zv = undef, fun zv _ => zv = undef, fun zv _ => zv = undef, fun zv _ => zv = undef, fun zv _ => zv = undef, fun zv _ => zv = .bool true, fun zv _ => zv = .bool true] : List (Value → World → Prop)).getD i (fun _ _ => True))
        (fun w' => Blk w' (w.heap.size) (#[.int .i64 p, vd]) 42 ∧ Blk w' (w.heap.size + 1) (#[va, .slice ob Lb cb]) 46 ∧ True) ⟨hC.drew, hA.drew, trivial⟩ (fun w1 w2 h hb => ⟨h.1.keep hb, h.2.1.keep hb, trivial⟩) ?_ ?_ ?_
    · intro i v w1 w2 h hb
      rcases i with _|_|_|_|_|_|_|_|_|_|_|_|_|_|_|_|_|_|_|_|_|_|_|_|_|_|_|_|_|_|_|_|_|_|_|_|_|_|_|_|_|_|_|_|_|_|_|_|_|_|_|_|i
      · exact h
      · exact h
      · exact h
      · exact h
      · exact h
      · exact h
      · exact h
      · exact h
      · exact h
      · exact h
      · exact h
      · exact h
      · exact h
      · exact h
      · exact h
      · exact h
      · exact h
      · exact h
      · exact h
      · exact h
      · exact h
      · exact h
      · exact h
      · exact h
      · exact h
      · exact h
      · exact h
      · exact h
      · exact h
      · exact h
      · exact (show IsRow w1 v (M) from h).below hb
      · exact h
      · exact h
      · exact (show IsRow w1 v (S) from h).below hb
      · exact h
      · exact h
      · exact (show IsRow w1 v (R) from h).below hb
      · exact h
      · exact h
      · exact h
      · exact h
      · exact h
      · exact h
      · exact h
      · exact h
      · exact h
      · exact h
      · exact h
      · exact h
      · exact h
      · exact h
      · exact h
      · exact h
    · intro i o ho a w2 hBl hSx hrd hpar
      rcases i with _|_|_|_|_|_|_|_|_|_|_|_|_|_|_|_|_|_|_|_|_|_|_|_|_|_|_|_|_|_|_|_|_|_|_|_|_|_|_|_|_|_|_|_|_|_|_|_|_|_|_|_|i
      · obtain rfl := Option.some.inj ho
        refine .inl ⟨rfl, ?_⟩
        exact wpv_of (wp_fieldB 46 _ 0 rfl 0 1 fform0 (w.heap.size + 1) 0 (hpar 3 _ (by kernel_rfl) (by kernel_rfl))) (fun _ _ => rfl)
      · obtain rfl := Option.some.inj ho
        refine .inl ⟨rfl, ?_⟩
        have e5 : a.eval (.tmp 5) = .pointer (some ⟨w.heap.size + 1, 0 + 0, none⟩) := hrd 0 _ 5 rfl rfl (by kernel_rfl) (by kernel_rfl)
        exact wpv_of (wp_load_slice 40 2 _ rfl _ e5 uRowT _ (by rw [hSx.2.1.cell]; rfl)) (fun _ _ => rfl)
      · obtain rfl := Option.some.inj ho
        refine .inl ⟨rfl, ?_⟩
        have e6 : a.eval (.tmp 6) = va := hrd 1 _ 6 rfl rfl (by kernel_rfl) (by kernel_rfl)
        exact wpv_call 79 [.tmp 6] _ rfl [va] (by simp only [List.map_cons, List.map_nil, e6]) Try.call79 ((kl.out w2 (haH.out.below (hB0.trans (hBl.mono hB0.size)))).mono fun _ _ ⟨h1, h2⟩ => ⟨_, h1, rfl, h2 ▸ Below.refl _ _⟩)
      · obtain rfl := Option.some.inj ho
        refine .inl ⟨rfl, ?_⟩
        have e7 : a.eval (.tmp 7) = .int .i64 x := hrd 2 _ 7 rfl rfl (by kernel_rfl) (by kernel_rfl)
        exact wpv_of (wp_cmp .eql _ _ _ _ rfl rfl .i64 _ _ e7 rfl _ q1) (fun _ _ => rfl)
      · obtain rfl := Option.some.inj ho
        refine .inl ⟨rfl, ?_⟩
        have e8 : a.eval (.tmp 8) = .bool true := hrd 3 _ 8 rfl rfl (by kernel_rfl) (by kernel_rfl)
        exact wpv_of (wp_move _ _ rfl e8) (fun _ _ => rfl)
      · obtain rfl := Option.some.inj ho
        refine .inr (.inl ⟨4, true, _, 9, rfl, rfl, rfl, (by kernel_rfl), (by kernel_rfl), fun v w' h => h, ?_⟩)
        exact wpv_of (wp_fieldB 46 _ 0 rfl 0 1 fform0 (w.heap.size + 1) 0 (hpar 3 _ (by kernel_rfl) (by kernel_rfl))) (fun _ _ => rfl)
      · obtain rfl := Option.some.inj ho
        refine .inr (.inl ⟨4, true, _, 9, rfl, rfl, rfl, (by kernel_rfl), (by kernel_rfl), fun v w' h => h, ?_⟩)
        have e10 : a.eval (.tmp 10) = .pointer (some ⟨w.heap.size + 1, 0 + 0, none⟩) := hrd 5 _ 10 rfl rfl (by kernel_rfl) (by kernel_rfl)
        exact wpv_of (wp_load_slice 40 2 _ rfl _ e10 uRowT _ (by rw [hSx.2.1.cell]; rfl)) (fun _ _ => rfl)
      · obtain rfl := Option.some.inj ho
        refine .inr (.inl ⟨4, true, _, 9, rfl, rfl, rfl, (by kernel_rfl), (by kernel_rfl), fun v w' h => h, ?_⟩)
        have e11 : a.eval (.tmp 11) = va := hrd 6 _ 11 rfl rfl (by kernel_rfl) (by kernel_rfl)
        exact wpv_call 62 [.tmp 11] _ rfl [va] (by simp only [List.map_cons, List.map_nil, e11]) Try.call62 ((kda.out w2 (haH.out.below (hB0.trans (hBl.mono hB0.size)))).mono fun _ _ ⟨h1, h2⟩ => ⟨_, h1, rfl, h2 ▸ Below.refl _ _⟩)
      · obtain rfl := Option.some.inj ho
        refine .inr (.inl ⟨4, true, _, 9, rfl, rfl, rfl, (by kernel_rfl), (by kernel_rfl), fun v w' h => h, ?_⟩)
        have e12 : a.eval (.tmp 12) = .int .i64 ((La : Int) - 1) := hrd 7 _ 12 rfl rfl (by kernel_rfl) (by kernel_rfl)
        exact wpv_of (wp_cmp .leq _ _ _ _ rfl rfl .i64 _ _ e12 rfl _ q2) (fun _ _ => rfl)
      · obtain rfl := Option.some.inj ho
        refine .inl ⟨rfl, ?_⟩
        have e9 : a.eval (.tmp 9) = .bool true := hrd 4 _ 9 rfl rfl (by kernel_rfl) (by kernel_rfl)
        have e13 : a.eval (.tmp 13) = .bool true := hrd 8 _ 13 rfl rfl (by kernel_rfl) (by kernel_rfl)
        exact wpv_of (wp_pickT _ _ _ rfl e9 (.bool true) e13) (fun _ _ => rfl)
      · obtain rfl := Option.some.inj ho
        refine .inl ⟨rfl, ?_⟩
        have e14 : a.eval (.tmp 14) = .bool true := hrd 9 _ 14 rfl rfl (by kernel_rfl) (by kernel_rfl)
        exact wpv_of (wp_move _ _ rfl e14) (fun _ _ => rfl)
      · obtain rfl := Option.some.inj ho
        refine .inr (.inl ⟨10, true, _, 15, rfl, rfl, rfl, (by kernel_rfl), (by kernel_rfl), fun v w' h => h, ?_⟩)
        exact wpv_of (wp_fieldB 46 _ 1 rfl 1 1 fform1 (w.heap.size + 1) 0 (hpar 3 _ (by kernel_rfl) (by kernel_rfl))) (fun _ _ => rfl)
      · obtain rfl := Option.some.inj ho
        refine .inr (.inl ⟨10, true, _, 15, rfl, rfl, rfl, (by kernel_rfl), (by kernel_rfl), fun v w' h => h, ?_⟩)
        have e16 : a.eval (.tmp 16) = .pointer (some ⟨w.heap.size + 1, 0 + 1, none⟩) := hrd 11 _ 16 rfl rfl (by kernel_rfl) (by kernel_rfl)
        exact wpv_of (wp_load_slice 40 2 _ rfl _ e16 uRowT _ (by rw [hSx.2.1.cell]; rfl)) (fun _ _ => rfl)
      · obtain rfl := Option.some.inj ho
        refine .inr (.inl ⟨10, true, _, 15, rfl, rfl, rfl, (by kernel_rfl), (by kernel_rfl), fun v w' h => h, ?_⟩)
        have e17 : a.eval (.tmp 17) = .slice ob Lb cb := hrd 12 _ 17 rfl rfl (by kernel_rfl) (by kernel_rfl)
        exact wpv_call 62 [.tmp 17] _ rfl [.slice ob Lb cb] (by simp only [List.map_cons, List.map_nil, e17]) Try.call62 ((kdb.out w2 (hbH.out.below (hB0.trans (hBl.mono hB0.size)))).mono fun _ _ ⟨h1, h2⟩ => ⟨_, h1, rfl, h2 ▸ Below.refl _ _⟩)
      · obtain rfl := Option.some.inj ho
        refine .inr (.inl ⟨10, true, _, 15, rfl, rfl, rfl, (by kernel_rfl), (by kernel_rfl), fun v w' h => h, ?_⟩)
        exact wpv_of (wp_fieldB 46 _ 0 rfl 0 1 fform0 (w.heap.size + 1) 0 (hpar 3 _ (by kernel_rfl) (by kernel_rfl))) (fun _ _ => rfl)
      · obtain rfl := Option.some.inj ho
        refine .inr (.inl ⟨10, true, _, 15, rfl, rfl, rfl, (by kernel_rfl), (by kernel_rfl), fun v w' h => h, ?_⟩)
        have e19 : a.eval (.tmp 19) = .pointer (some ⟨w.heap.size + 1, 0 + 0, none⟩) := hrd 14 _ 19 rfl rfl (by kernel_rfl) (by kernel_rfl)
        exact wpv_of (wp_load_slice 40 2 _ rfl _ e19 uRowT _ (by rw [hSx.2.1.cell]; rfl)) (fun _ _ => rfl)
      · obtain rfl := Option.some.inj ho
        refine .inr (.inl ⟨10, true, _, 15, rfl, rfl, rfl, (by kernel_rfl), (by kernel_rfl), fun v w' h => h, ?_⟩)
        have e20 : a.eval (.tmp 20) = va := hrd 15 _ 20 rfl rfl (by kernel_rfl) (by kernel_rfl)
        exact wpv_call 62 [.tmp 20] _ rfl [va] (by simp only [List.map_cons, List.map_nil, e20]) Try.call62 ((kda.out w2 (haH.out.below (hB0.trans (hBl.mono hB0.size)))).mono fun _ _ ⟨h1, h2⟩ => ⟨_, h1, rfl, h2 ▸ Below.refl _ _⟩)
      · obtain rfl := Option.some.inj ho
        refine .inr (.inl ⟨10, true, _, 15, rfl, rfl, rfl, (by kernel_rfl), (by kernel_rfl), fun v w' h => h, ?_⟩)
        have e18 : a.eval (.tmp 18) = .int .i64 ((Lb : Int) - 1) := hrd 13 _ 18 rfl rfl (by kernel_rfl) (by kernel_rfl)
        have e21 : a.eval (.tmp 21) = .int .i64 ((La : Int) - 1) := hrd 16 _ 21 rfl rfl (by kernel_rfl) (by kernel_rfl)
        exact wpv_of (wp_cmp .lss _ _ _ _ rfl rfl .i64 _ _ e18 e21 _ q3) (fun _ _ => rfl)
      · obtain rfl := Option.some.inj ho
        refine .inl ⟨rfl, ?_⟩
        have e15 : a.eval (.tmp 15) = .bool true := hrd 10 _ 15 rfl rfl (by kernel_rfl) (by kernel_rfl)
        have e22 : a.eval (.tmp 22) = .bool true := hrd 17 _ 22 rfl rfl (by kernel_rfl) (by kernel_rfl)
        exact wpv_of (wp_pickT _ _ _ rfl e15 (.bool true) e22) (fun _ _ => rfl)
      · obtain rfl := Option.some.inj ho
        refine .inl ⟨rfl, ?_⟩
        have e23 : a.eval (.tmp 23) = .bool true := hrd 18 _ 23 rfl rfl (by kernel_rfl) (by kernel_rfl)
        exact wpv_of (wp_move _ _ rfl e23) (fun _ _ => rfl)
      · obtain rfl := Option.some.inj ho
        refine .inr (.inl ⟨19, true, _, 24, rfl, rfl, rfl, (by kernel_rfl), (by kernel_rfl), fun v w' h => h, ?_⟩)
        exact wpv_of (wp_fieldB 42 _ 0 rfl 0 1 fcurve0 (w.heap.size) 0 (hpar 2 _ (by kernel_rfl) (by kernel_rfl))) (fun _ _ => rfl)
      · obtain rfl := Option.some.inj ho
        refine .inr (.inl ⟨19, true, _, 24, rfl, rfl, rfl, (by kernel_rfl), (by kernel_rfl), fun v w' h => h, ?_⟩)
        have e25 : a.eval (.tmp 25) = .pointer (some ⟨w.heap.size, 0 + 0, none⟩) := hrd 20 _ 25 rfl rfl (by kernel_rfl) (by kernel_rfl)
        exact wpv_of (wp_load_cell 38 _ rfl _ e25 .i64 uPrime _ (by rw [hSx.1.cell]; rfl)) (fun _ _ => rfl)
      · obtain rfl := Option.some.inj ho
        refine .inr (.inl ⟨19, true, _, 24, rfl, rfl, rfl, (by kernel_rfl), (by kernel_rfl), fun v w' h => h, ?_⟩)
        exact wpv_of (wp_fieldB 42 _ 0 rfl 0 1 fcurve0 (w.heap.size) 0 (hpar 2 _ (by kernel_rfl) (by kernel_rfl))) (fun _ _ => rfl)
      · obtain rfl := Option.some.inj ho
        refine .inr (.inl ⟨19, true, _, 24, rfl, rfl, rfl, (by kernel_rfl), (by kernel_rfl), fun v w' h => h, ?_⟩)
        have e27 : a.eval (.tmp 27) = .pointer (some ⟨w.heap.size, 0 + 0, none⟩) := hrd 22 _ 27 rfl rfl (by kernel_rfl) (by kernel_rfl)
        exact wpv_of (wp_load_cell 38 _ rfl _ e27 .i64 uPrime _ (by rw [hSx.1.cell]; rfl)) (fun _ _ => rfl)
      · obtain rfl := Option.some.inj ho
        refine .inr (.inl ⟨19, true, _, 24, rfl, rfl, rfl, (by kernel_rfl), (by kernel_rfl), fun v w' h => h, ?_⟩)
        exact wpv_of (wp_fieldB 42 _ 0 rfl 0 1 fcurve0 (w.heap.size) 0 (hpar 2 _ (by kernel_rfl) (by kernel_rfl))) (fun _ _ => rfl)
      · obtain rfl := Option.some.inj ho
        refine .inr (.inl ⟨19, true, _, 24, rfl, rfl, rfl, (by kernel_rfl), (by kernel_rfl), fun v w' h => h, ?_⟩)
        have e29 : a.eval (.tmp 29) = .pointer (some ⟨w.heap.size, 0 + 0, none⟩) := hrd 24 _ 29 rfl rfl (by kernel_rfl) (by kernel_rfl)
        exact wpv_of (wp_load_cell 38 _ rfl _ e29 .i64 uPrime _ (by rw [hSx.1.cell]; rfl)) (fun _ _ => rfl)
      · obtain rfl := Option.some.inj ho
        refine .inr (.inl ⟨19, true, _, 24, rfl, rfl, rfl, (by kernel_rfl), (by kernel_rfl), fun v w' h => h, ?_⟩)
        exact wpv_of (wp_fieldB 46 _ 1 rfl 1 1 fform1 (w.heap.size + 1) 0 (hpar 3 _ (by kernel_rfl) (by kernel_rfl))) (fun _ _ => rfl)
      · obtain rfl := Option.some.inj ho
        refine .inr (.inl ⟨19, true, _, 24, rfl, rfl, rfl, (by kernel_rfl), (by kernel_rfl), fun v w' h => h, ?_⟩)
        have e31 : a.eval (.tmp 31) = .pointer (some ⟨w.heap.size + 1, 0 + 1, none⟩) := hrd 26 _ 31 rfl rfl (by kernel_rfl) (by kernel_rfl)
        exact wpv_of (wp_load_slice 40 2 _ rfl _ e31 uRowT _ (by rw [hSx.2.1.cell]; rfl)) (fun _ _ => rfl)
      · obtain rfl := Option.some.inj ho
        refine .inr (.inl ⟨19, true, _, 24, rfl, rfl, rfl, (by kernel_rfl), (by kernel_rfl), fun v w' h => h, ?_⟩)
        exact wpv_of (wp_fieldB 46 _ 1 rfl 1 1 fform1 (w.heap.size + 1) 0 (hpar 3 _ (by kernel_rfl) (by kernel_rfl))) (fun _ _ => rfl)
      · obtain rfl := Option.some.inj ho
        refine .inr (.inl ⟨19, true, _, 24, rfl, rfl, rfl, (by kernel_rfl), (by kernel_rfl), fun v w' h => h, ?_⟩)
        have e33 : a.eval (.tmp 33) = .pointer (some ⟨w.heap.size + 1, 0 + 1, none⟩) := hrd 28 _ 33 rfl rfl (by kernel_rfl) (by kernel_rfl)
        exact wpv_of (wp_load_slice 40 2 _ rfl _ e33 uRowT _ (by rw [hSx.2.1.cell]; rfl)) (fun _ _ => rfl)
      · obtain rfl := Option.some.inj ho
        refine .inr (.inl ⟨19, true, _, 24, rfl, rfl, rfl, (by kernel_rfl), (by kernel_rfl), fun v w' h => h, ?_⟩)
        have e30 : a.eval (.tmp 30) = .int .i64 p := hrd 25 _ 30 rfl rfl (by kernel_rfl) (by kernel_rfl)
        have e32 : a.eval (.tmp 32) = .slice ob Lb cb := hrd 27 _ 32 rfl rfl (by kernel_rfl) (by kernel_rfl)
        have e34 : a.eval (.tmp 34) = .slice ob Lb cb := hrd 29 _ 34 rfl rfl (by kernel_rfl) (by kernel_rfl)
        exact wpv_call 50 [.tmp 30, .tmp 32, .tmp 34] _ rfl [.int .i64 p, .slice ob Lb cb, .slice ob Lb cb] (by simp only [List.map_cons, List.map_nil, e30, e32, e34]) Try.call50 (r1.out w2 (hbH.out.below (hB0.trans (hBl.mono hB0.size))))
      · obtain rfl := Option.some.inj ho
        refine .inr (.inl ⟨19, true, _, 24, rfl, rfl, rfl, (by kernel_rfl), (by kernel_rfl), fun v w' h => h, ?_⟩)
        exact wpv_of (wp_fieldB 42 _ 1 rfl 1 1 fcurve1 (w.heap.size) 0 (hpar 2 _ (by kernel_rfl) (by kernel_rfl))) (fun _ _ => rfl)
      · obtain rfl := Option.some.inj ho
        refine .inr (.inl ⟨19, true, _, 24, rfl, rfl, rfl, (by kernel_rfl), (by kernel_rfl), fun v w' h => h, ?_⟩)
        have e36 : a.eval (.tmp 36) = .pointer (some ⟨w.heap.size, 0 + 1, none⟩) := hrd 31 _ 36 rfl rfl (by kernel_rfl) (by kernel_rfl)
        exact wpv_of (wp_load_slice 40 2 _ rfl _ e36 uRowT _ (by rw [hSx.1.cell]; rfl)) (fun _ _ => rfl)
      · obtain rfl := Option.some.inj ho
        refine .inr (.inl ⟨19, true, _, 24, rfl, rfl, rfl, (by kernel_rfl), (by kernel_rfl), fun v w' h => h, ?_⟩)
        have e28 : a.eval (.tmp 28) = .int .i64 p := hrd 23 _ 28 rfl rfl (by kernel_rfl) (by kernel_rfl)
        have h35 : (fun v w => IsRow w v (M)) (a.eval (.tmp 35)) w2 := hrd 30 _ 35 rfl rfl (by kernel_rfl) (by kernel_rfl)
        generalize e35 : a.eval (.tmp 35) = v35 at h35
        have e37 : a.eval (.tmp 37) = vd := hrd 32 _ 37 rfl rfl (by kernel_rfl) (by kernel_rfl)
        exact wpv_call 69 [.tmp 28, .tmp 35, .tmp 37, .const (.int .i64 (-1))] _ rfl [.int .i64 p, v35, vd, .int .i64 (-1)] (by simp only [List.map_cons, List.map_nil, e28, e35, e37, eval_const]) Try.call69 (r2.out _ w2 h35 (hcv.out.below (hB0.trans (hBl.mono hB0.size))))
      · obtain rfl := Option.some.inj ho
        refine .inr (.inl ⟨19, true, _, 24, rfl, rfl, rfl, (by kernel_rfl), (by kernel_rfl), fun v w' h => h, ?_⟩)
        exact wpv_of (wp_fieldB 46 _ 0 rfl 0 1 fform0 (w.heap.size + 1) 0 (hpar 3 _ (by kernel_rfl) (by kernel_rfl))) (fun _ _ => rfl)
      · obtain rfl := Option.some.inj ho
        refine .inr (.inl ⟨19, true, _, 24, rfl, rfl, rfl, (by kernel_rfl), (by kernel_rfl), fun v w' h => h, ?_⟩)
        have e39 : a.eval (.tmp 39) = .pointer (some ⟨w.heap.size + 1, 0 + 0, none⟩) := hrd 34 _ 39 rfl rfl (by kernel_rfl) (by kernel_rfl)
        exact wpv_of (wp_load_slice 40 2 _ rfl _ e39 uRowT _ (by rw [hSx.2.1.cell]; rfl)) (fun _ _ => rfl)
      · obtain rfl := Option.some.inj ho
        refine .inr (.inl ⟨19, true, _, 24, rfl, rfl, rfl, (by kernel_rfl), (by kernel_rfl), fun v w' h => h, ?_⟩)
        have e26 : a.eval (.tmp 26) = .int .i64 p := hrd 21 _ 26 rfl rfl (by kernel_rfl) (by kernel_rfl)
        have h38 : (fun v w => IsRow w v (S)) (a.eval (.tmp 38)) w2 := hrd 33 _ 38 rfl rfl (by kernel_rfl) (by kernel_rfl)
        generalize e38 : a.eval (.tmp 38) = v38 at h38
        have e40 : a.eval (.tmp 40) = va := hrd 35 _ 40 rfl rfl (by kernel_rfl) (by kernel_rfl)
        exact wpv_call 49 [.tmp 26, .tmp 38, .tmp 40] _ rfl [.int .i64 p, v38, va] (by simp only [List.map_cons, List.map_nil, e26, e38, e40]) Try.call49 (r3.out _ w2 h38 (haH.out.below (hB0.trans (hBl.mono hB0.size))))
      · obtain rfl := Option.some.inj ho
        refine .inr (.inl ⟨19, true, _, 24, rfl, rfl, rfl, (by kernel_rfl), (by kernel_rfl), fun v w' h => h, ?_⟩)
        have h41 : (fun v w => IsRow w v (R)) (a.eval (.tmp 41)) w2 := hrd 36 _ 41 rfl rfl (by kernel_rfl) (by kernel_rfl)
        generalize e41 : a.eval (.tmp 41) = v41 at h41
        obtain ⟨oR, cR, eR, _⟩ := h41
        exact wpv_of (wp_len _ 40 2 uRowT rfl oR R.length cR (e41.trans eR)) (fun _ _ => rfl)
      · obtain rfl := Option.some.inj ho
        refine .inr (.inl ⟨19, true, _, 24, rfl, rfl, rfl, (by kernel_rfl), (by kernel_rfl), fun v w' h => h, ?_⟩)
        have e42 : a.eval (.tmp 42) = .int .i64 (R.length : Int) := hrd 37 _ 42 rfl rfl (by kernel_rfl) (by kernel_rfl)
        exact wpv_of (wp_cmp .eql _ _ _ _ rfl rfl .i64 _ _ e42 rfl _ q4) (fun _ _ => rfl)
      · obtain rfl := Option.some.inj ho
        refine .inl ⟨rfl, ?_⟩
        have e24 : a.eval (.tmp 24) = .bool true := hrd 19 _ 24 rfl rfl (by kernel_rfl) (by kernel_rfl)
        have e43 : a.eval (.tmp 43) = .bool true := hrd 38 _ 43 rfl rfl (by kernel_rfl) (by kernel_rfl)
        exact wpv_of (wp_pickT _ _ _ rfl e24 (.bool true) e43) (fun _ _ => rfl)
      · obtain rfl := Option.some.inj ho
        refine .inl ⟨rfl, ?_⟩
        have e44 : a.eval (.tmp 44) = .bool true := hrd 39 _ 44 rfl rfl (by kernel_rfl) (by kernel_rfl)
        exact wpv_of (wp_move _ _ rfl e44) (fun _ _ => rfl)
      · obtain rfl := Option.some.inj ho
        exact .inr (.inr ⟨40, false, _, 45, rfl, rfl, rfl, (by kernel_rfl), (by kernel_rfl), fun v w' h => .inl h, fun _ => rfl⟩)
      · obtain rfl := Option.some.inj ho
        exact .inr (.inr ⟨40, false, _, 45, rfl, rfl, rfl, (by kernel_rfl), (by kernel_rfl), fun v w' h => .inl h, fun _ => rfl⟩)
      · obtain rfl := Option.some.inj ho
        exact .inr (.inr ⟨40, false, _, 45, rfl, rfl, rfl, (by kernel_rfl), (by kernel_rfl), fun v w' h => .inl h, fun _ => rfl⟩)
      · obtain rfl := Option.some.inj ho
        exact .inr (.inr ⟨40, false, _, 45, rfl, rfl, rfl, (by kernel_rfl), (by kernel_rfl), fun v w' h => .inl h, fun _ => rfl⟩)
      · obtain rfl := Option.some.inj ho
        exact .inr (.inr ⟨44, true, _, 49, rfl, rfl, rfl, (by kernel_rfl), (by kernel_rfl), fun v w' h => .inr h, fun _ => rfl⟩)
      · obtain rfl := Option.some.inj ho
        exact .inr (.inr ⟨44, true, _, 49, rfl, rfl, rfl, (by kernel_rfl), (by kernel_rfl), fun v w' h => .inr h, fun _ => rfl⟩)
      · obtain rfl := Option.some.inj ho
        exact .inr (.inr ⟨44, true, _, 49, rfl, rfl, rfl, (by kernel_rfl), (by kernel_rfl), fun v w' h => .inr h, fun _ => rfl⟩)
      · obtain rfl := Option.some.inj ho
        exact .inr (.inr ⟨44, true, _, 49, rfl, rfl, rfl, (by kernel_rfl), (by kernel_rfl), fun v w' h => .inr h, fun _ => rfl⟩)
      · obtain rfl := Option.some.inj ho
        exact .inr (.inr ⟨40, false, _, 45, rfl, rfl, rfl, (by kernel_rfl), (by kernel_rfl), fun v w' h => .inl h, fun _ => rfl⟩)
      · obtain rfl := Option.some.inj ho
        refine .inl ⟨rfl, ?_⟩
        have e45 : a.eval (.tmp 45) = .bool true := hrd 40 _ 45 rfl rfl (by kernel_rfl) (by kernel_rfl)
        exact wpv_of (wp_pickT _ _ _ rfl e45 (.bool true) rfl) (fun _ _ => rfl)
      · obtain rfl := Option.some.inj ho
        refine .inl ⟨rfl, ?_⟩
        have e55 : a.eval (.tmp 55) = .bool true := hrd 50 _ 55 rfl rfl (by kernel_rfl) (by kernel_rfl)
        exact wpv_of (wp_assign _ _ rfl e55) (fun _ _ => rfl)
      · simp at ho
    intro vals xE hBx hSx hc0
    have e0 : vals 0 = .pointer (some ⟨w.heap.size + 1, 0 + 0, none⟩) := hc0 0 (by simp)
    have e1 : vals 1 = va := hc0 1 (by simp)
    have e2 : vals 2 = .int .i64 x := hc0 2 (by simp)
    have e3 : vals 3 = .bool true := hc0 3 (by simp)
    have e4 : vals 4 = .bool true := hc0 4 (by simp)
    have e5 : vals 5 = .pointer (some ⟨w.heap.size + 1, 0 + 0, none⟩) := hc0 5 (by simp)
    have e6 : vals 6 = va := hc0 6 (by simp)
    have e7 : vals 7 = .int .i64 ((La : Int) - 1) := hc0 7 (by simp)
    have e8 : vals 8 = .bool true := hc0 8 (by simp)
    have e9 : vals 9 = .bool true := hc0 9 (by simp)
    have e10 : vals 10 = .bool true := hc0 10 (by simp)
    have e11 : vals 11 = .pointer (some ⟨w.heap.size + 1, 0 + 1, none⟩) := hc0 11 (by simp)
    have e12 : vals 12 = .slice ob Lb cb := hc0 12 (by simp)
    have e13 : vals 13 = .int .i64 ((Lb : Int) - 1) := hc0 13 (by simp)
    have e14 : vals 14 = .pointer (some ⟨w.heap.size + 1, 0 + 0, none⟩) := hc0 14 (by simp)
    have e15 : vals 15 = va := hc0 15 (by simp)
    have e16 : vals 16 = .int .i64 ((La : Int) - 1) := hc0 16 (by simp)
    have e17 : vals 17 = .bool true := hc0 17 (by simp)
    have e18 : vals 18 = .bool true := hc0 18 (by simp)
    have e19 : vals 19 = .bool true := hc0 19 (by simp)
    have e20 : vals 20 = .pointer (some ⟨w.heap.size, 0 + 0, none⟩) := hc0 20 (by simp)
    have e21 : vals 21 = .int .i64 p := hc0 21 (by simp)
    have e22 : vals 22 = .pointer (some ⟨w.heap.size, 0 + 0, none⟩) := hc0 22 (by simp)
    have e23 : vals 23 = .int .i64 p := hc0 23 (by simp)
    have e24 : vals 24 = .pointer (some ⟨w.heap.size, 0 + 0, none⟩) := hc0 24 (by simp)
    have e25 : vals 25 = .int .i64 p := hc0 25 (by simp)
    have e26 : vals 26 = .pointer (some ⟨w.heap.size + 1, 0 + 1, none⟩) := hc0 26 (by simp)
    have e27 : vals 27 = .slice ob Lb cb := hc0 27 (by simp)
    have e28 : vals 28 = .pointer (some ⟨w.heap.size + 1, 0 + 1, none⟩) := hc0 28 (by simp)
    have e29 : vals 29 = .slice ob Lb cb := hc0 29 (by simp)
    have cE30 : (fun v w => IsRow w v (M)) (vals 30) xE := hc0 30 (by simp)
    generalize ev30 : vals 30 = uE30 at cE30
    have e31 : vals 31 = .pointer (some ⟨w.heap.size, 0 + 1, none⟩) := hc0 31 (by simp)
    have e32 : vals 32 = vd := hc0 32 (by simp)
    have cE33 : (fun v w => IsRow w v (S)) (vals 33) xE := hc0 33 (by simp)
    generalize ev33 : vals 33 = uE33 at cE33
    have e34 : vals 34 = .pointer (some ⟨w.heap.size + 1, 0 + 0, none⟩) := hc0 34 (by simp)
    have e35 : vals 35 = va := hc0 35 (by simp)
    have cE36 : (fun v w => IsRow w v (R)) (vals 36) xE := hc0 36 (by simp)
    generalize ev36 : vals 36 = uE36 at cE36
    have e37 : vals 37 = .int .i64 (R.length : Int) := hc0 37 (by simp)
    have e38 : vals 38 = .bool true := hc0 38 (by simp)
    have e39 : vals 39 = .bool true := hc0 39 (by simp)
    have e40 : vals 40 = .bool true := hc0 40 (by simp)
    have e41 : vals 41 = undef := hc0 41 (by simp)
    have e42 : vals 42 = undef := hc0 42 (by simp)
    have e43 : vals 43 = undef := hc0 43 (by simp)
    have e44 : vals 44 = undef := hc0 44 (by simp)
    have e45 : vals 45 = undef := hc0 45 (by simp)
    have e46 : vals 46 = undef := hc0 46 (by simp)
    have e47 : vals 47 = undef := hc0 47 (by simp)
    have e48 : vals 48 = undef := hc0 48 (by simp)
    have e49 : vals 49 = undef := hc0 49 (by simp)
    have e50 : vals 50 = .bool true := hc0 50 (by simp)
    have e51 : vals 51 = .bool true := hc0 51 (by simp)
    simp only [List.length_cons, List.length_nil, Nat.zero_add, Nat.reduceAdd, List.replicate, putAll, if_true, Act.put, List.setIfInBounds_toArray, List.set_cons_zero, List.set_cons_succ, e0, e1, e2, e3, e4, e5, e6, e7, e8, e9, e10, e11, e12, e13, e14, e15, e16, e17, e18, e19, e20, e21, e22, e23, e24, e25, e26, e27, e28, e29, ev30, e31, e32, ev33, e34, e35, ev36, e37, e38, e39, e40, e41, e42, e43, e44, e45, e46, e47, e48, e49, e50, e51]
    replace hC := hSx.1
    replace hA := hSx.2.1
    replace hb := below_step hb hBx
    clear hc0 hSx e0 e1 e2 e3 e4 e5 e6 e7 e8 e9 e10 e11 e12 e13 e14 e15 e16 e17 e18 e19 e20 e21 e22 e23 e24 e25 e26 e27 e28 e29 ev30 e31 e32 ev33 e34 e35 ev36 e37 e38 e39 e40 e41 e42 e43 e44 e45 e46 e47 e48 e49 e50 e51
    go_wp2_with fail
    go_ret
    exact ⟨rfl, hb⟩
end Go.Proofs.Ytohgjihccjnheab

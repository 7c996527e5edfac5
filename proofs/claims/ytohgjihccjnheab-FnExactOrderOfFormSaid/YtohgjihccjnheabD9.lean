/- Walks: reduction of forms, the reference's side. -/
import Derived.Test.YtohgjihccjnheabGrpR
set_option linter.unusedVariables false
set_option linter.unusedSimpArgs false
namespace Go.Proofs.Ytohgjihccjnheab
open Go.RowKit

theorem fm_setA (a b f : Nat → Int) : u8s 128 (fun j => if 0 ≤ j ∧ j < 0 + 64 then f (j - 0) else fmF a b j) = u8s 128 (fmF f b) := u8s_ext fun j _ => by
  unfold fmF
  by_cases h : j < 64
  · rw [if_pos (by omega), if_pos h]; rfl
  · rw [if_neg (by omega), if_neg h, if_neg h]
theorem fm_setB (a b f : Nat → Int) : u8s 128 (fun j => if 64 ≤ j ∧ j < 64 + 64 then f (j - 64) else fmF a b j) = u8s 128 (fmF a f) := u8s_ext fun j hj => by
  unfold fmF
  by_cases h : j < 64
  · rw [if_neg (by omega), if_pos h, if_pos h]
  · rw [if_pos (by omega), if_neg h]
theorem polyLen_form {w : World} {g T : Nat} {xs : List Int} {h : Nat → Int} (hb : Blk w g (u8s 128 (fmF (cf xs) h)) T) (ht : Tr xs) (hl : xs.length ≤ 64) : polyLen w g = xs.length := by
  unfold polyLen
  unfold Blk at hb
  rw [hb]
  have : (mkp 64 fun i => match (u8s 128 (fmF (cf xs) h))[i]? with | some (.int _ z) => z | _ => 0) = xs := mkp_eq ht fun i => by
    by_cases hi : i < 64
    · rw [if_pos hi, u8s_get _ (by omega)]; show fmF (cf xs) h i = _; unfold fmF; rw [if_pos hi]
    · rw [if_neg hi, cf_ge xs i (by omega)]
  show (mkp 64 fun i => match (u8s 128 (fmF (cf xs) h))[i]? with | some (.int _ z) => z | _ => 0).length = _
  rw [this]
theorem Rd.x64 {p : Int} {ds xs ys : List Int} (h : Rd p ds xs ys) : P64 p xs := ⟨h.pr, h.xP, by have := h.frm.2.1; omega⟩
theorem Rd.y64 {p : Int} {ds xs ys : List Int} (h : Rd p ds xs ys) : P64 p ys := ⟨h.pr, h.yP, by have := h.frm.2.1; have := h.frm.2.2.1; omega⟩
theorem Rd.d64 {p : Int} {ds xs ys : List Int} (h : Rd p ds xs ys) : P64 p ds := ⟨h.pr, h.dP, by have := h.dl; omega⟩
theorem Rd.sq64 {p : Int} {ds xs ys : List Int} (h : Rd p ds xs ys) : (mulp p ys ys).length ≤ 64 := by have := mulp_length_le p ys ys; have := h.frm.2.1; have := h.frm.2.2.1; omega
theorem Rd.sqd64 {p : Int} {ds xs ys : List Int} (h : Rd p ds xs ys) : P64 p (sqd p ds ys) := P64.addp ⟨h.pr, mulp_Po (by have := h.pr.pos; omega) _ _, h.sq64⟩ h.d64 (-1)

set_option maxRecDepth 20000 in
set_option maxHeartbeats 2000000 in
theorem l07Monic_any (p : Int) (xs : List Int) (w : World) (hx : P64 p xs) (hne : xs ≠ []) :
    Calls Try.prog 84 #[.int .i64 p, .agg (u8s 64 (cf xs))] w fun e w' => e = .returned (.agg (u8s 64 (cf (mnc p xs)))) ∧ Below w.heap.size w w' := by
  have hpos := List.length_pos_iff.2 hne
  obtain ⟨m, hm⟩ : ∃ m, xs.length = m + 1 := ⟨xs.length - 1, by omega⟩
  have hm64 : m < 64 := by have := hx.le; omega
  have hi := invp_spec hx.pr (hx.po.lead hne) (hx.po.md _).2
  have k1 : ∀ w, Calls Try.prog 27 #[.agg (u8s 64 (cf xs))] w fun e w' => e = .returned (.int .i64 (m : Int)) ∧ Below w.heap.size w w' := fun w => by
    have := l01Deg_any (cf xs) w hx.by.on
    rwa [hx.self, hm, show ((m + 1 : Nat) : Int) - 1 = (m : Int) by omega] at this
  have k2 := fun w => l01Inverse_any p (cf xs (xs.length - 1)) w hx.pr (hx.po.lead hne) (hx.po.md _).2
  have hp2 := hx.pr.pos
  unfold mnc scl
  rw [hm, show m + 1 - 1 = m by omega] at hi k2 ⊢
  obtain ⟨iv, hiv⟩ : ∃ iv, invp p (cf xs m) = iv := ⟨_, rfl⟩
  rw [hiv] at hi k2 ⊢
  have k3 := fun w => l01Add_zero xs p iv w hx (by omega) (by omega)
  obtain ⟨M, hM⟩ : ∃ M, addp p [] xs iv = M := ⟨_, rfl⟩
  rw [hM] at k3 ⊢
  have hi0 : 0 ≤ iv := by omega
  have hi1 : iv < 8 := by omega
  have k1H := Lib.hid k1
  have k2H := Lib.hid k2
  have k3H := Lib.hid k3
  clear k1 k2 k3 hM hiv hi hm hpos hne hx hp2
  obtain ⟨hb, hA, hZ⟩ := boxes2 w (u8s 64 (cf xs)) (u8s 64 fun _ => 0) 27 27
  go_enter Try.func84, Try.ntmps84
  go_upto_region 1 with ((with_reducible refine wpl_guard ?_); first | (refine wpl_alloc_arr rfl 27 rfl _ zPoly ?_))
  simp only [size_alloc]
  go_upto_region 1 with (fail)
  refine gen_last (w := _) (by kernel_rfl) (by kernel_rfl) (by kernel_rfl) 11 (by kernel_rfl)
      (fun i => ([fun zv _ => zv = .int .i64 p, fun zv _ => zv = .agg (u8s 64 fun _ => 0), fun zv _ => zv = .agg (u8s 64 (cf xs)), fun zv _ => zv = .int .i64 p, fun zv _ => zv = .agg (u8s 64 (cf xs)), fun zv _ => zv = .int .i64 (m : Int), fun zv _ => zv = .pointer (some ⟨w.heap.size, m, none⟩), fun zv _ => zv = .int .u8 (cf xs m), fun zv _ => zv = .int .u8 iv, fun zv _ => zv = .int .i64 iv, fun zv _ => zv = .agg (u8s 64 (cf M)), fun _ _ => True] : List (Value → World → Prop)).getD i (fun _ _ => True))
      (fun w' => Blk w' (w.heap.size) (u8s 64 (cf xs)) 27 ∧ True) ⟨hA.drew, trivial⟩ (fun w1 w2 h hb => ⟨h.1.keep hb, trivial⟩) ?_ ?_ ?_
  · intro i v w1 w2 h hb
    rcases i with _|_|_|_|_|_|_|_|_|_|_|_|i
    · exact h
    · exact h
    · exact h
    · exact h
    · exact h
    · exact h
    · exact h
    · exact h
    · exact h
    · exact h
    · exact h
    · exact h
    · exact h
  · intro i o ho hiZ a w2 hBl hSx hrd hpar
    rcases i with _|_|_|_|_|_|_|_|_|_|_|_|i
    · obtain rfl := Option.some.inj ho
      refine .inl ⟨rfl, ?_⟩
      have e0 : a.eval (.tmp 0) = .int .i64 p := hpar 0 _ (by kernel_rfl) (by kernel_rfl)
      exact wpv_of (wp_move _ _ rfl e0) (fun _ _ => rfl)
    · obtain rfl := Option.some.inj ho
      refine .inl ⟨rfl, ?_⟩
      exact wpv_of (wp_build_zeroB 27 64 5 rfl uPoly sByte zPoly) (fun _ _ => rfl)
    · obtain rfl := Option.some.inj ho
      refine .inl ⟨rfl, ?_⟩
      exact wpv_of (wp_loadB 27 _ rfl _ (hpar 3 (.pointer (some ⟨w.heap.size, 0, none⟩)) (by kernel_rfl) (by kernel_rfl)) _ _ hSx.1 _ _ uPoly sPoly) (fun _ _ => rfl)
    · obtain rfl := Option.some.inj ho
      refine .inl ⟨rfl, ?_⟩
      have e0 : a.eval (.tmp 0) = .int .i64 p := hpar 0 _ (by kernel_rfl) (by kernel_rfl)
      exact wpv_of (wp_move _ _ rfl e0) (fun _ _ => rfl)
    · obtain rfl := Option.some.inj ho
      refine .inl ⟨rfl, ?_⟩
      exact wpv_of (wp_loadB 27 _ rfl _ (hpar 3 (.pointer (some ⟨w.heap.size, 0, none⟩)) (by kernel_rfl) (by kernel_rfl)) _ _ hSx.1 _ _ uPoly sPoly) (fun _ _ => rfl)
    · obtain rfl := Option.some.inj ho
      refine .inl ⟨rfl, ?_⟩
      have e9 : a.eval (.tmp 9) = .agg (u8s 64 (cf xs)) := hrd 4 _ 9 rfl rfl (by kernel_rfl) (by kernel_rfl)
      exact wpv_call 27 [.tmp 9] _ rfl [.agg (u8s 64 (cf xs))] (by simp only [List.map_cons, List.map_nil, e9]) Try.call27 ((k1H.out w2).mono fun _ _ ⟨h1, h2⟩ => ⟨_, h1, rfl, h2⟩)
    · obtain rfl := Option.some.inj ho
      refine .inl ⟨rfl, ?_⟩
      have e10 : a.eval (.tmp 10) = .int .i64 (m : Int) := hrd 5 _ 10 rfl rfl (by kernel_rfl) (by kernel_rfl)
      exact wpv_of (wp_index_arr 27 5 64 _ _ rfl uPoly sByte (w.heap.size) m .i64 (hpar 3 _ (by kernel_rfl) (by kernel_rfl)) e10 hm64) (fun _ _ => rfl)
    · obtain rfl := Option.some.inj ho
      refine .inl ⟨rfl, ?_⟩
      have e11 : a.eval (.tmp 11) = .pointer (some ⟨w.heap.size, m, none⟩) := hrd 6 _ 11 rfl rfl (by kernel_rfl) (by kernel_rfl)
      exact wpv_of (wp_load_cell 5 _ rfl _ e11 .u8 uByte _ (by rw [hSx.1.cell, u8s_get _ hm64])) (fun _ _ => rfl)
    · obtain rfl := Option.some.inj ho
      refine .inl ⟨rfl, ?_⟩
      have e8 : a.eval (.tmp 8) = .int .i64 p := hrd 3 _ 8 rfl rfl (by kernel_rfl) (by kernel_rfl)
      have e12 : a.eval (.tmp 12) = .int .u8 (cf xs m) := hrd 7 _ 12 rfl rfl (by kernel_rfl) (by kernel_rfl)
      exact wpv_call 83 [.tmp 8, .tmp 12] _ rfl [.int .i64 p, .int .u8 (cf xs m)] (by simp only [List.map_cons, List.map_nil, e8, e12]) Try.call83 ((k2H.out w2).mono fun _ _ ⟨h1, h2⟩ => ⟨_, h1, rfl, h2 ▸ Below.refl _ _⟩)
    · obtain rfl := Option.some.inj ho
      refine .inl ⟨rfl, ?_⟩
      have e13 : a.eval (.tmp 13) = .int .u8 iv := hrd 8 _ 13 rfl rfl (by kernel_rfl) (by kernel_rfl)
      exact wpv_of (wp_conv_u8 5 2 _ rfl _ e13 hi0 (by omega) uByte uInt) (fun _ _ => rfl)
    · obtain rfl := Option.some.inj ho
      refine .inl ⟨rfl, ?_⟩
      have e5 : a.eval (.tmp 5) = .int .i64 p := hrd 0 _ 5 rfl rfl (by kernel_rfl) (by kernel_rfl)
      have e6 : a.eval (.tmp 6) = .agg (u8s 64 fun _ => 0) := hrd 1 _ 6 rfl rfl (by kernel_rfl) (by kernel_rfl)
      have e7 : a.eval (.tmp 7) = .agg (u8s 64 (cf xs)) := hrd 2 _ 7 rfl rfl (by kernel_rfl) (by kernel_rfl)
      have e14 : a.eval (.tmp 14) = .int .i64 iv := hrd 9 _ 14 rfl rfl (by kernel_rfl) (by kernel_rfl)
      exact wpv_call 55 [.tmp 5, .tmp 6, .tmp 7, .tmp 14] _ rfl [.int .i64 p, .agg (u8s 64 fun _ => 0), .agg (u8s 64 (cf xs)), .int .i64 iv] (by simp only [List.map_cons, List.map_nil, e5, e6, e7, e14]) Try.call55 ((k3H.out w2).mono fun _ _ ⟨h1, h2⟩ => ⟨_, h1, rfl, h2⟩)
    · obtain rfl := Option.some.inj ho
      exact absurd rfl hiZ
    · simp at ho
  intro oZ hoZ vals xE hBx hSx hc0
  obtain rfl := Option.some.inj hoZ
  clear hoZ
  have e0 : vals 0 = .int .i64 p := hc0 0 (by simp) (by decide)
  have e1 : vals 1 = .agg (u8s 64 fun _ => 0) := hc0 1 (by simp) (by decide)
  have e2 : vals 2 = .agg (u8s 64 (cf xs)) := hc0 2 (by simp) (by decide)
  have e3 : vals 3 = .int .i64 p := hc0 3 (by simp) (by decide)
  have e4 : vals 4 = .agg (u8s 64 (cf xs)) := hc0 4 (by simp) (by decide)
  have e5 : vals 5 = .int .i64 (m : Int) := hc0 5 (by simp) (by decide)
  have e6 : vals 6 = .pointer (some ⟨w.heap.size, m, none⟩) := hc0 6 (by simp) (by decide)
  have e7 : vals 7 = .int .u8 (cf xs m) := hc0 7 (by simp) (by decide)
  have e8 : vals 8 = .int .u8 iv := hc0 8 (by simp) (by decide)
  have e9 : vals 9 = .int .i64 iv := hc0 9 (by simp) (by decide)
  have e10 : vals 10 = .agg (u8s 64 (cf M)) := hc0 10 (by simp) (by decide)
  refine ⟨rfl, ?_⟩
  simp only [List.length_cons, List.length_nil, Nat.zero_add, Nat.reduceAdd, List.replicate, seenAll, Bool.false_eq_true, if_false, putAll, if_true, Act.put, List.setIfInBounds_toArray, List.set_cons_zero, List.set_cons_succ, e0, e1, e2, e3, e4, e5, e6, e7, e8, e9, e10]
  replace hZ := hZ.keep hBx
  replace hA := hSx.1
  replace hb := below_step hb hBx
  clear hc0 hSx e0 e1 e2 e3 e4 e5 e6 e7 e8 e9 e10
  refine wp_store_arr 27 _ _ rfl (w.heap.size + 1) rfl _ rfl _ _ hZ sPoly (by simp only [u8s_size]) (u8s_oneCell _ _) ?_
  go_wp2_with fail
  exact bodyPost_ret (res_c rfl rfl (hZ.setRow_same (cs := u8s 64 (cf M))) uPoly sPoly) rfl ⟨rfl, below_setRow hb (by omega) _⟩

set_option maxRecDepth 20000 in
set_option maxHeartbeats 2000000 in
theorem l07Reduce_any (p : Int) (ds xs ys : List Int) (w : World) (hr : Rd p ds xs ys) :
    Calls Try.prog 60 #[.int .i64 p, .agg (u8s 64 (cf ds)), .agg (u8s 128 (fmF (cf xs) (cf ys)))] w fun e w' => e = .returned (.agg (u8s 128 (fmF (cf (red p ds 13 xs ys).1) (cf (red p ds 13 xs ys).2)))) ∧ Below w.heap.size w w' := by
  obtain ⟨hb, hD, hF, hZ⟩ := boxes3 w (u8s 64 (cf ds)) (u8s 128 (fmF (cf xs) (cf ys))) (u8s 128 fun _ => 0) 27 30 30
  obtain ⟨R, hR⟩ : ∃ R, red p ds 13 xs ys = R := ⟨_, rfl⟩
  rw [hR]
  have hRH := Lib.hid hR
  have hrH := Lib.hid hr
  clear hR hr
  go_enter Try.func60, Try.ntmps60
  go_wp2_with ((with_reducible refine wpl_guard ?_); first | (refine wpl_alloc_arr rfl 30 rfl _ zForm ?_))
  simp only [Act.put, List.setIfInBounds_toArray, List.set_cons_zero, List.set_cons_succ, size_alloc]
  go_loopw [9] (fun _ wr => ∃ (n : Nat) (la lb : List Int), la.length ≤ n ∧ Hid (Rd p ds la lb) ∧ Hid (red p ds n la lb = R) ∧ Blk wr w.heap.size (u8s 64 (cf ds)) 27 ∧ Blk wr (w.heap.size + 1) (u8s 128 (fmF (cf la) (cf lb))) 30 ∧ Blk wr (w.heap.size + 1 + 1) (u8s 128 fun _ => 0) 30 ∧ Below w.heap.size w wr) (fun _ wr => polyLen wr (w.heap.size + 1))
  case atStart => exact ⟨13, xs, ys, hrH.out.frm.2.1, hrH, hRH, hD, hF, hZ, hb⟩
  case round =>
    clear hD hF hZ hb hRH hrH
    obtain ⟨n, la, lb, hn, hr, hR, hD, hF, hZ, hb⟩ := hrel
    have hpl := Lib.hid (polyLen_form hF hr.out.xP.tr hr.out.x64.le)
    have d1 := fun w => l01Deg_any (cf la) w hr.out.x64.by.on
    have d2 := fun w => l07Genus_any (cf ds) w hr.out.d64.by
    rw [hr.out.x64.self] at d1
    rw [hr.out.d64.self] at d2
    by_cases hg : (la.length : Int) - 1 ≤ gns ds
    · have e := hR.out.symm.trans (red_stop p ds la lb n hg)
      subst e
      have hcH : Hid (cmpB .gtr ((la.length : Int) - 1) (gns ds) = false) := Lib.hid (decide_eq_false (by show ¬ _ > _; omega))
      clear hR hn hpl hr
      generalize (la.length : Int) - 1 = n1 at *
      generalize gns ds = n2 at *
      have d1H := Lib.hid d1
      have d2H := Lib.hid d2
      clear d1 d2 hg
      go_upto_region 1 with (fail)
      refine gen_guard (w := _) (by kernel_rfl) (by kernel_rfl) (by kernel_rfl)
          (fun i => ([fun zv _ => zv = .pointer (some ⟨w.heap.size + 1, 0 + 0, none⟩), fun zv _ => zv = .agg (u8s 64 (cf la)), fun zv _ => zv = .int .i64 n1, fun zv _ => zv = .agg (u8s 64 (cf ds)), fun zv _ => zv = .int .i64 n2, fun zv _ => zv = .bool false] : List (Value → World → Prop)).getD i (fun _ _ => True))
          (fun w' => Blk w' (w.heap.size) (u8s 64 (cf ds)) 27 ∧ Blk w' (w.heap.size + 1) (u8s 128 (fmF (cf la) (cf lb))) 30 ∧ True) ⟨hD.drew, hF.drew, trivial⟩ (fun w1 w2 h hb => ⟨h.1.keep hb, h.2.1.keep hb, trivial⟩) ?_ ?_ ?_
      · intro i v w1 w2 h hb
        rcases i with _|_|_|_|_|_|i
        · exact h
        · exact h
        · exact h
        · exact h
        · exact h
        · exact h
        · exact h
      · intro i o ho a w2 hBl hSx hrd hpar
        rcases i with _|_|_|_|_|_|i
        · obtain rfl := Option.some.inj ho
          refine .inl ⟨rfl, ?_⟩
          exact wpv_of (wp_fieldB 30 _ 0 rfl 0 64 fForm0 (w.heap.size + 1) 0 (hpar 5 _ (by kernel_rfl) (by kernel_rfl))) (fun _ _ => rfl)
        · obtain rfl := Option.some.inj ho
          refine .inl ⟨rfl, ?_⟩
          have e9 : a.eval (.tmp 9) = .pointer (some ⟨w.heap.size + 1, 0 + 0, none⟩) := hrd 0 _ 9 rfl rfl (by kernel_rfl) (by kernel_rfl)
          exact wpv_of (wp_load_A 27 _ rfl _ e9 _ _ _ hSx.2.1 uPoly sPoly) (fun _ _ => rfl)
        · obtain rfl := Option.some.inj ho
          refine .inl ⟨rfl, ?_⟩
          have e10 : a.eval (.tmp 10) = .agg (u8s 64 (cf la)) := hrd 1 _ 10 rfl rfl (by kernel_rfl) (by kernel_rfl)
          exact wpv_call 27 [.tmp 10] _ rfl [.agg (u8s 64 (cf la))] (by simp only [List.map_cons, List.map_nil, e10]) Try.call27 ((d1H.out w2).mono fun _ _ ⟨h1, h2⟩ => ⟨_, h1, rfl, h2⟩)
        · obtain rfl := Option.some.inj ho
          refine .inl ⟨rfl, ?_⟩
          exact wpv_of (wp_loadB 27 _ rfl _ (hpar 4 (.pointer (some ⟨w.heap.size, 0, none⟩)) (by kernel_rfl) (by kernel_rfl)) _ _ hSx.1 _ _ uPoly sPoly) (fun _ _ => rfl)
        · obtain rfl := Option.some.inj ho
          refine .inl ⟨rfl, ?_⟩
          have e12 : a.eval (.tmp 12) = .agg (u8s 64 (cf ds)) := hrd 3 _ 12 rfl rfl (by kernel_rfl) (by kernel_rfl)
          exact wpv_call 28 [.tmp 12] _ rfl [.agg (u8s 64 (cf ds))] (by simp only [List.map_cons, List.map_nil, e12]) Try.call28 ((d2H.out w2).mono fun _ _ ⟨h1, h2⟩ => ⟨_, h1, rfl, h2⟩)
        · obtain rfl := Option.some.inj ho
          refine .inl ⟨rfl, ?_⟩
          have e11 : a.eval (.tmp 11) = .int .i64 n1 := hrd 2 _ 11 rfl rfl (by kernel_rfl) (by kernel_rfl)
          have e13 : a.eval (.tmp 13) = .int .i64 n2 := hrd 4 _ 13 rfl rfl (by kernel_rfl) (by kernel_rfl)
          exact wpv_of (wp_cmp .gtr _ _ _ _ rfl rfl .i64 _ _ e11 e13 _ hcH.out) (fun _ _ => rfl)
        · simp at ho
      intro vals xE hBx hSx hc0
      have e0 : vals 0 = .pointer (some ⟨w.heap.size + 1, 0 + 0, none⟩) := hc0 0 (by simp)
      have e1 : vals 1 = .agg (u8s 64 (cf la)) := hc0 1 (by simp)
      have e2 : vals 2 = .int .i64 n1 := hc0 2 (by simp)
      have e3 : vals 3 = .agg (u8s 64 (cf ds)) := hc0 3 (by simp)
      have e4 : vals 4 = .int .i64 n2 := hc0 4 (by simp)
      have e5 : vals 5 = .bool false := hc0 5 (by simp)
      simp only [List.length_cons, List.length_nil, Nat.zero_add, Nat.reduceAdd, List.replicate, putAll, if_true, Act.put, List.setIfInBounds_toArray, List.set_cons_zero, List.set_cons_succ, e0, e1, e2, e3, e4, e5]
      replace hZ := hZ.keep hBx
      replace hD := hSx.1
      replace hF := hSx.2.1
      replace hb := below_step hb hBx
      clear hc0 hSx e0 e1 e2 e3 e4 e5
      go_wp2_with ((with_reducible refine wpl_guard ?_); first | (refine wpl_load_str rfl 30 _ rfl _ rfl _ _ hF tForm sForm ?_) | (refine wpl_store_arr rfl 30 _ _ rfl _ rfl _ rfl _ _ hZ sForm (by simp only [u8s_size]) (u8s_oneCell _ _) ?_))
      exact bodyPost_ret (res_s rfl rfl (hZ.setRow_same (cs := u8s 128 (fmF (cf la) (cf lb)))) tForm sForm) rfl ⟨rfl, below_setRow hb (by omega) _⟩
    · obtain ⟨k, rfl⟩ : ∃ k, n = k + 1 := ⟨n - 1, by have := List.length_pos_iff.2 hr.out.ne; omega⟩
      have hR2 := Lib.hid ((red_go p ds la lb k hg).symm.trans hR.out)
      have hnx := hr.out.next hg
      have hcH : Hid (cmpB .gtr ((la.length : Int) - 1) (gns ds) = true) := Lib.hid (decide_eq_true (by show _ > _; omega))
      have m1 := fun w => l07Square_any p ds lb w hr.out.d64 hr.out.y64 hr.out.sq64
      have m2 := fun w => l01Divide_any (sqd p ds lb) la p w hr.out.sqd64 hr.out.x64 hr.out.ne
      have hq := hr.out.quot
      have m3 := fun w => l07Monic_any p (qof p ds la lb) w (hr.out.sqd64.quot hr.out.x64 hr.out.ne) hq.2.1
      rw [← nfa_mnc] at m3
      have m4 := fun w => l07Opposite_any p lb (nfa p ds la lb) w hr.out.y64 hnx.1.x64 hnx.1.ne
      rw [show opp p (nfa p ds la lb) lb = nfb p ds la lb from rfl] at m4
      have hlt := Lib.hid hnx.2
      have hnR := Lib.hid hnx.1
      rw [show (divp p (sqd p ds lb) la).1 = qof p ds la lb from rfl] at m2
      clear hR hnx hq hr
      have hltn := hlt.out
      generalize hn1 : (la.length : Int) - 1 = n1 at *
      generalize gns ds = n2 at *
      generalize sqd p ds lb = SQ at *
      generalize qof p ds la lb = QO at *
      generalize (divp p SQ la).2 = RO at *
      generalize nfa p ds la lb = NA at *
      generalize nfb p ds la lb = NB at *
      have d1H := Lib.hid d1
      have d2H := Lib.hid d2
      have m1H := Lib.hid m1
      have m2H := Lib.hid m2
      have m3H := Lib.hid m3
      have m4H := Lib.hid m4
      clear d1 d2 m1 m2 m3 m4 hg hn1
      go_upto_region 1 with (fail)
      refine gen_guard (w := _) (by kernel_rfl) (by kernel_rfl) (by kernel_rfl)
          (fun i => ([fun zv _ => zv = .pointer (some ⟨w.heap.size + 1, 0 + 0, none⟩), fun zv _ => zv = .agg (u8s 64 (cf la)), fun zv _ => zv = .int .i64 n1, fun zv _ => zv = .agg (u8s 64 (cf ds)), fun zv _ => zv = .int .i64 n2, fun zv _ => zv = .bool true] : List (Value → World → Prop)).getD i (fun _ _ => True))
          (fun w' => Blk w' (w.heap.size) (u8s 64 (cf ds)) 27 ∧ Blk w' (w.heap.size + 1) (u8s 128 (fmF (cf la) (cf lb))) 30 ∧ True) ⟨hD.drew, hF.drew, trivial⟩ (fun w1 w2 h hb => ⟨h.1.keep hb, h.2.1.keep hb, trivial⟩) ?_ ?_ ?_
      · intro i v w1 w2 h hb
        rcases i with _|_|_|_|_|_|i
        · exact h
        · exact h
        · exact h
        · exact h
        · exact h
        · exact h
        · exact h
      · intro i o ho a w2 hBl hSx hrd hpar
        rcases i with _|_|_|_|_|_|i
        · obtain rfl := Option.some.inj ho
          refine .inl ⟨rfl, ?_⟩
          exact wpv_of (wp_fieldB 30 _ 0 rfl 0 64 fForm0 (w.heap.size + 1) 0 (hpar 5 _ (by kernel_rfl) (by kernel_rfl))) (fun _ _ => rfl)
        · obtain rfl := Option.some.inj ho
          refine .inl ⟨rfl, ?_⟩
          have e9 : a.eval (.tmp 9) = .pointer (some ⟨w.heap.size + 1, 0 + 0, none⟩) := hrd 0 _ 9 rfl rfl (by kernel_rfl) (by kernel_rfl)
          exact wpv_of (wp_load_A 27 _ rfl _ e9 _ _ _ hSx.2.1 uPoly sPoly) (fun _ _ => rfl)
        · obtain rfl := Option.some.inj ho
          refine .inl ⟨rfl, ?_⟩
          have e10 : a.eval (.tmp 10) = .agg (u8s 64 (cf la)) := hrd 1 _ 10 rfl rfl (by kernel_rfl) (by kernel_rfl)
          exact wpv_call 27 [.tmp 10] _ rfl [.agg (u8s 64 (cf la))] (by simp only [List.map_cons, List.map_nil, e10]) Try.call27 ((d1H.out w2).mono fun _ _ ⟨h1, h2⟩ => ⟨_, h1, rfl, h2⟩)
        · obtain rfl := Option.some.inj ho
          refine .inl ⟨rfl, ?_⟩
          exact wpv_of (wp_loadB 27 _ rfl _ (hpar 4 (.pointer (some ⟨w.heap.size, 0, none⟩)) (by kernel_rfl) (by kernel_rfl)) _ _ hSx.1 _ _ uPoly sPoly) (fun _ _ => rfl)
        · obtain rfl := Option.some.inj ho
          refine .inl ⟨rfl, ?_⟩
          have e12 : a.eval (.tmp 12) = .agg (u8s 64 (cf ds)) := hrd 3 _ 12 rfl rfl (by kernel_rfl) (by kernel_rfl)
          exact wpv_call 28 [.tmp 12] _ rfl [.agg (u8s 64 (cf ds))] (by simp only [List.map_cons, List.map_nil, e12]) Try.call28 ((d2H.out w2).mono fun _ _ ⟨h1, h2⟩ => ⟨_, h1, rfl, h2⟩)
        · obtain rfl := Option.some.inj ho
          refine .inl ⟨rfl, ?_⟩
          have e11 : a.eval (.tmp 11) = .int .i64 n1 := hrd 2 _ 11 rfl rfl (by kernel_rfl) (by kernel_rfl)
          have e13 : a.eval (.tmp 13) = .int .i64 n2 := hrd 4 _ 13 rfl rfl (by kernel_rfl) (by kernel_rfl)
          exact wpv_of (wp_cmp .gtr _ _ _ _ rfl rfl .i64 _ _ e11 e13 _ hcH.out) (fun _ _ => rfl)
        · simp at ho
      intro vals xE hBx hSx hc0
      have e0 : vals 0 = .pointer (some ⟨w.heap.size + 1, 0 + 0, none⟩) := hc0 0 (by simp)
      have e1 : vals 1 = .agg (u8s 64 (cf la)) := hc0 1 (by simp)
      have e2 : vals 2 = .int .i64 n1 := hc0 2 (by simp)
      have e3 : vals 3 = .agg (u8s 64 (cf ds)) := hc0 3 (by simp)
      have e4 : vals 4 = .int .i64 n2 := hc0 4 (by simp)
      have e5 : vals 5 = .bool true := hc0 5 (by simp)
      simp only [List.length_cons, List.length_nil, Nat.zero_add, Nat.reduceAdd, List.replicate, putAll, if_true, Act.put, List.setIfInBounds_toArray, List.set_cons_zero, List.set_cons_succ, e0, e1, e2, e3, e4, e5]
      replace hZ := hZ.keep hBx
      replace hD := hSx.1
      replace hF := hSx.2.1
      replace hb := below_step hb hBx
      clear hc0 hSx e0 e1 e2 e3 e4 e5
      go_wp2_with fail
      go_upto_region 2 with (fail)
      refine law_region2 (by kernel_rfl) (by kernel_rfl) (by kernel_rfl) (by kernel_rfl)
          (fun i => ([some (.int .i64 p), some (.int .i64 p), some (.agg (u8s 64 (cf ds))), some (.pointer (some ⟨w.heap.size + 1, 0 + 64, none⟩)), some (.agg (u8s 64 (cf lb))), some (.agg (u8s 64 (cf SQ))), some (.pointer (some ⟨w.heap.size + 1, 0 + 0, none⟩)), some (.agg (u8s 64 (cf la))), some (.tuple #[.agg (u8s 64 (cf QO)), .agg (u8s 64 (cf RO))]), some (.tuple #[.agg (u8s 64 (cf QO)), .agg (u8s 64 (cf RO))]), some (.agg (u8s 64 (cf QO))), some (.agg (u8s 64 (cf RO))), none, none, none, none] : List (Option Value)).getD i none) 2 (fun zk => [12, 13].getD zk 0) (fun zk => [14, 15].getD zk 0) (fun zk => [10, 11].getD zk 0) (fun zk => [7, 8].getD zk 0) (fun zk => [25, 26].getD zk 0) (fun zk => [64, 64].getD zk 0) (fun zk => [(cf QO), (cf RO)].getD zk (fun _ => 0)) (fun zk => [27, 27].getD zk 0) ?_ ?_ ?_ ?_ ?_ ?_
      · intro i hi
        rcases i with _|_|_|_|_|_|_|_|_|_|_|_|_|_|_|_|i
        · exact .inl ⟨_, rfl⟩
        · exact .inl ⟨_, rfl⟩
        · exact .inl ⟨_, rfl⟩
        · exact .inl ⟨_, rfl⟩
        · exact .inl ⟨_, rfl⟩
        · exact .inl ⟨_, rfl⟩
        · exact .inl ⟨_, rfl⟩
        · exact .inl ⟨_, rfl⟩
        · exact .inl ⟨_, rfl⟩
        · exact .inl ⟨_, rfl⟩
        · exact .inl ⟨_, rfl⟩
        · exact .inl ⟨_, rfl⟩
        · exact .inr (.inl ⟨0, by decide, rfl⟩)
        · exact .inr (.inl ⟨1, by decide, rfl⟩)
        · exact .inr (.inr ⟨0, by decide, rfl⟩)
        · exact .inr (.inr ⟨1, by decide, rfl⟩)
        · simp only [List.length_cons, List.length_nil] at hi; omega
      · intro k hk
        rcases k with _|_|k
        · exact ⟨rfl, rfl, rfl, zPoly⟩
        · exact ⟨rfl, rfl, rfl, zPoly⟩
        · omega
      · intro k hk k' hk'
        rcases k with _|_|k
        all_goals rcases k' with _|_|k'
        all_goals first | omega | exact ⟨by decide, by decide, by decide⟩
      · intro k hk
        rcases k with _|_|k
        · kernel_rfl
        · kernel_rfl
        · omega
      · intro i o c ho hc a w2 hBw hrd hpar
        rcases i with _|_|_|_|_|_|_|_|_|_|_|_|_|_|_|_|i
        · obtain rfl := Option.some.inj ho
          obtain rfl := Option.some.inj hc
          exact wp_move _ (.int .i64 p) rfl (hpar 0 _ (by kernel_rfl) (by kernel_rfl))
        · obtain rfl := Option.some.inj ho
          obtain rfl := Option.some.inj hc
          exact wp_move _ (.int .i64 p) rfl (hpar 0 _ (by kernel_rfl) (by kernel_rfl))
        · obtain rfl := Option.some.inj ho
          obtain rfl := Option.some.inj hc
          exact wp_loadB 27 _ rfl _ (hpar 4 (.pointer (some ⟨w.heap.size, 0, none⟩)) (by kernel_rfl) (by kernel_rfl)) _ _ (hD.keep hBw) _ _ uPoly sPoly
        · obtain rfl := Option.some.inj ho
          obtain rfl := Option.some.inj hc
          exact wp_fieldB 30 _ 1 rfl 64 64 fForm1 (w.heap.size + 1) 0 (hpar 5 _ (by kernel_rfl) (by kernel_rfl))
        · obtain rfl := Option.some.inj ho
          obtain rfl := Option.some.inj hc
          exact wp_load_B 27 _ rfl _ (hrd 3 _ _ 19 rfl rfl rfl (by kernel_rfl) (by kernel_rfl)) _ _ _ (hF.keep hBw) uPoly sPoly
        · obtain rfl := Option.some.inj ho
          obtain rfl := Option.some.inj hc
          exact wp_callB 54 [.tmp 17, .tmp 18, .tmp 20] _ rfl [.int .i64 p, .agg (u8s 64 (cf ds)), .agg (u8s 64 (cf lb))] (by simp only [List.map_cons, List.map_nil, (hrd 1 _ _ 17 rfl rfl rfl (by kernel_rfl) (by kernel_rfl)), (hrd 2 _ _ 18 rfl rfl rfl (by kernel_rfl) (by kernel_rfl)), (hrd 4 _ _ 20 rfl rfl rfl (by kernel_rfl) (by kernel_rfl))]) Try.call54 _ (m1H.out w2)
        · obtain rfl := Option.some.inj ho
          obtain rfl := Option.some.inj hc
          exact wp_fieldB 30 _ 0 rfl 0 64 fForm0 (w.heap.size + 1) 0 (hpar 5 _ (by kernel_rfl) (by kernel_rfl))
        · obtain rfl := Option.some.inj ho
          obtain rfl := Option.some.inj hc
          exact wp_load_A 27 _ rfl _ (hrd 6 _ _ 22 rfl rfl rfl (by kernel_rfl) (by kernel_rfl)) _ _ _ (hF.keep hBw) uPoly sPoly
        · obtain rfl := Option.some.inj ho
          obtain rfl := Option.some.inj hc
          exact wp_callB 58 [.tmp 16, .tmp 21, .tmp 23] _ rfl [.int .i64 p, .agg (u8s 64 (cf SQ)), .agg (u8s 64 (cf la))] (by simp only [List.map_cons, List.map_nil, (hrd 0 _ _ 16 rfl rfl rfl (by kernel_rfl) (by kernel_rfl)), (hrd 5 _ _ 21 rfl rfl rfl (by kernel_rfl) (by kernel_rfl)), (hrd 7 _ _ 23 rfl rfl rfl (by kernel_rfl) (by kernel_rfl))]) Try.call58 _ (m2H.out w2)
        · obtain rfl := Option.some.inj ho
          obtain rfl := Option.some.inj hc
          exact wp_move _ (.tuple #[.agg (u8s 64 (cf QO)), .agg (u8s 64 (cf RO))]) rfl (hrd 8 _ _ 24 rfl rfl rfl (by kernel_rfl) (by kernel_rfl))
        · obtain rfl := Option.some.inj ho
          obtain rfl := Option.some.inj hc
          exact wp_extract _ 0 #[.agg (u8s 64 (cf QO)), .agg (u8s 64 (cf RO))] _ rfl (hrd 9 _ _ 15 rfl rfl rfl (by kernel_rfl) (by kernel_rfl)) rfl
        · obtain rfl := Option.some.inj ho
          obtain rfl := Option.some.inj hc
          exact wp_extract _ 1 #[.agg (u8s 64 (cf QO)), .agg (u8s 64 (cf RO))] _ rfl (hrd 9 _ _ 15 rfl rfl rfl (by kernel_rfl) (by kernel_rfl)) rfl
        · cases hc
        · cases hc
        · cases hc
        · cases hc
        · cases hc
      intro vals xF hBw hc hr
      have e0 : vals 0 = .int .i64 p := hc 0 _ (by simp) rfl
      have e1 : vals 1 = .int .i64 p := hc 1 _ (by simp) rfl
      have e2 : vals 2 = .agg (u8s 64 (cf ds)) := hc 2 _ (by simp) rfl
      have e3 : vals 3 = .pointer (some ⟨w.heap.size + 1, 0 + 64, none⟩) := hc 3 _ (by simp) rfl
      have e4 : vals 4 = .agg (u8s 64 (cf lb)) := hc 4 _ (by simp) rfl
      have e5 : vals 5 = .agg (u8s 64 (cf SQ)) := hc 5 _ (by simp) rfl
      have e6 : vals 6 = .pointer (some ⟨w.heap.size + 1, 0 + 0, none⟩) := hc 6 _ (by simp) rfl
      have e7 : vals 7 = .agg (u8s 64 (cf la)) := hc 7 _ (by simp) rfl
      have e8 : vals 8 = .tuple #[.agg (u8s 64 (cf QO)), .agg (u8s 64 (cf RO))] := hc 8 _ (by simp) rfl
      have e9 : vals 9 = .tuple #[.agg (u8s 64 (cf QO)), .agg (u8s 64 (cf RO))] := hc 9 _ (by simp) rfl
      have e10 : vals 10 = .agg (u8s 64 (cf QO)) := hc 10 _ (by simp) rfl
      have e11 : vals 11 = .agg (u8s 64 (cf RO)) := hc 11 _ (by simp) rfl
      obtain ⟨gF0, p0, hgF0, hF0⟩ : ∃ g, vals 12 = .pointer (some ⟨g, 0, none⟩) ∧ _ ≤ g ∧ Blk xF g (u8s 64 (cf QO)) 27 := hr 0 (by decide)
      obtain ⟨gF1, p1, hgF1, hF1⟩ : ∃ g, vals 13 = .pointer (some ⟨g, 0, none⟩) ∧ _ ≤ g ∧ Blk xF g (u8s 64 (cf RO)) 27 := hr 1 (by decide)
      simp only [List.length_cons, List.length_nil, Nat.zero_add, Nat.reduceAdd, List.replicate, putAll, if_true, Act.put, List.setIfInBounds_toArray, List.set_cons_zero, List.set_cons_succ, e0, e1, e2, e3, e4, e5, e6, e7, e8, e9, e10, e11, p0, p1]
      replace hD := hD.keep hBw
      replace hF := hF.keep hBw
      replace hZ := hZ.keep hBw
      replace hb := below_step hb hBw
      clear hc hr e0 e1 e2 e3 e4 e5 e6 e7 e8 e9 e10 e11 p0 p1
      clear hBw
      go_wp2_with ((with_reducible refine wpl_guard ?_); first | (refine wpl_load_arr rfl 27 _ rfl _ rfl _ _ hF0 _ _ uPoly sPoly ?_))
      refine (m3H.out _).mono ?_
      rintro e u1 ⟨rfl, hn⟩
      replace hD := hD.keep hn
      replace hF := hF.keep hn
      replace hZ := hZ.keep hn
      replace hF0 := hF0.keep hn
      replace hF1 := hF1.keep hn
      replace hb := below_step hb hn
      clear hn
      go_upto_region 4 with ((with_reducible refine wpl_guard ?_); first | (refine wpl_store_part rfl 27 _ _ rfl (w.heap.size + 1) 0 rfl 64 128 _ _ rfl _ hF sPoly (by decide) ?_))
      have hF2 := (hF.setRow_same (cs := u8s 128 (fun j => if 0 ≤ j ∧ j < 0 + 64 then cf NA (j - 0) else fmF (cf la) (cf lb) j))).cast (fm_setA _ _ _)
      have hD2 := hD.setRow_other (g := w.heap.size + 1) (cs := u8s 128 (fun j => if 0 ≤ j ∧ j < 0 + 64 then cf NA (j - 0) else fmF (cf la) (cf lb) j)) (by omega)
      have hZ2 := hZ.setRow_other (g := w.heap.size + 1) (cs := u8s 128 (fun j => if 0 ≤ j ∧ j < 0 + 64 then cf NA (j - 0) else fmF (cf la) (cf lb) j)) (by omega)
      have hb2 := below_setRow hb (g := w.heap.size + 1) (by omega) (u8s 128 (fun j => if 0 ≤ j ∧ j < 0 + 64 then cf NA (j - 0) else fmF (cf la) (cf lb) j))
      clear hF hD hZ hb hF0 hF1
      generalize World.setRow _ (w.heap.size + 1) (u8s 128 (fun j => if 0 ≤ j ∧ j < 0 + 64 then cf NA (j - 0) else fmF (cf la) (cf lb) j)) = v1 at *
      go_wp2_with ((with_reducible refine wpl_guard ?_); first | (refine wpl_load_B rfl 27 _ rfl _ rfl 5 _ _ _ hF2 uPoly sPoly ?_) | (refine wpl_load_A rfl 27 _ rfl _ rfl 5 _ _ _ hF2 uPoly sPoly ?_))
      refine (m4H.out _).mono ?_
      rintro e u2 ⟨rfl, hn⟩
      replace hD2 := hD2.keep hn
      replace hF2 := hF2.keep hn
      replace hZ2 := hZ2.keep hn
      replace hb2 := below_step hb2 hn
      clear hn
      go_upto_region 5 with ((with_reducible refine wpl_guard ?_); first | (refine wpl_store_part rfl 27 _ _ rfl (w.heap.size + 1) 64 rfl 64 128 _ _ rfl _ hF2 sPoly (by decide) ?_))
      have hF3 := (hF2.setRow_same (cs := u8s 128 (fun j => if 64 ≤ j ∧ j < 64 + 64 then cf NB (j - 64) else fmF (cf NA) (cf lb) j))).cast (fm_setB _ _ _)
      have hD3 := hD2.setRow_other (g := w.heap.size + 1) (cs := u8s 128 (fun j => if 64 ≤ j ∧ j < 64 + 64 then cf NB (j - 64) else fmF (cf NA) (cf lb) j)) (by omega)
      have hZ3 := hZ2.setRow_other (g := w.heap.size + 1) (cs := u8s 128 (fun j => if 64 ≤ j ∧ j < 64 + 64 then cf NB (j - 64) else fmF (cf NA) (cf lb) j)) (by omega)
      have hb3 := below_setRow hb2 (g := w.heap.size + 1) (by omega) (u8s 128 (fun j => if 64 ≤ j ∧ j < 64 + 64 then cf NB (j - 64) else fmF (cf NA) (cf lb) j))
      clear hF2 hD2 hZ2 hb2
      simp only [Act.put, List.setIfInBounds_toArray, List.set_cons_zero, List.set_cons_succ]
      go_wp2_with fail
      go_roundw
      case rel => exact ⟨k, NA, NB, by omega, hnR, hR2, hD3, hF3, hZ3, hb3⟩
      case measure => rw [hpl.out, polyLen_form hF3 hnR.out.xP.tr hnR.out.x64.le]; exact hltn
end Go.Proofs.Ytohgjihccjnheab

/- Walks: reduction of forms, the program's side. -/
import Derived.Test.YtohgjihccjnheabD9
set_option linter.unusedVariables false
set_option linter.unusedSimpArgs false
namespace Go.Proofs.Ytohgjihccjnheab
open Go.RowKit

section
variable {P : Program} {Q : Exit → Act → World → Prop}
theorem wp_store_two0 {o : Oper} {a : Act} {w : World} {K : Act → World → Prop} (t : TypeId) (x y : Operand) (hop : o.op = .store t x y) (g : Nat) (hx : a.eval x = .pointer (some ⟨g, 0, none⟩)) (v v0 v1 : Value) (hy : a.eval y = v) (T : TypeId) (hb : Blk w g #[v0, v1] T)
    (hs : (P.info? t).map (·.size) = some 1) (h1 : v.oneCell' = true) (h : K (a.put o.dst undef) (w.setRow g #[v, v1])) : o.wp P a w K Q := by
  have hr := run_storeCells_at (P := P) g 0 T [v] 0 #[v0, v1] w hb (by simp) (fun x hx => by simp at hx; subst hx; exact h1)
  have hc : v.cells = #[v] := by cases v <;> first | rfl | cases h1
  obtain ⟨i, hi, hsz⟩ := Option.map_eq_some_iff.1 hs
  simp at hr
  unfold Oper.wp execOp
  simp only [hop, hx, hy, Instr.storeAt, Instr.sureAddr, storeVar, sizeOf, typeInfo]
  simp [Sem.run_bind, hi, hsz, hc, hr, Oper.upon]
  exact h
theorem wp_store_two1 {o : Oper} {a : Act} {w : World} {K : Act → World → Prop} (t : TypeId) (x y : Operand) (hop : o.op = .store t x y) (g : Nat) (hx : a.eval x = .pointer (some ⟨g, 1, none⟩)) (v v0 v1 : Value) (hy : a.eval y = v) (T : TypeId) (hb : Blk w g #[v0, v1] T)
    (hs : (P.info? t).map (·.size) = some 1) (h1 : v.oneCell' = true) (h : K (a.put o.dst undef) (w.setRow g #[v0, v])) : o.wp P a w K Q := by
  have hr := run_storeCells_at (P := P) g 1 T [v] 0 #[v0, v1] w hb (by simp) (fun x hx => by simp at hx; subst hx; exact h1)
  have hc : v.cells = #[v] := by cases v <;> first | rfl | cases h1
  obtain ⟨i, hi, hsz⟩ := Option.map_eq_some_iff.1 hs
  simp at hr
  unfold Oper.wp execOp
  simp only [hop, hx, hy, Instr.storeAt, Instr.sureAddr, storeVar, sizeOf, typeInfo]
  simp [Sem.run_bind, hi, hsz, hc, hr, Oper.upon]
  exact h
end
theorem two_slices {va vb : Value} (ha : ∃ a n c, va = .slice a n c) (hb : ∃ a n c, vb = .slice a n c) (xs : List Int) (h : 0 < xs.length) (off : Nat) : ∃ i, i < xs.length ∧ (#[va, vb] : Array Value)[off + i]? ≠ some (.int .i64 (cf xs i)) := by
  obtain ⟨a1, n1, c1, rfl⟩ := ha
  obtain ⟨a2, n2, c2, rfl⟩ := hb
  refine ⟨0, h, ?_⟩
  match off with
  | 0 => simp
  | 1 => simp
  | n + 2 => simp
theorem one_slice {v : Value} (h : ∃ a n c, v = .slice a n c) : v.oneCell' = true := by obtain ⟨a, n, c, rfl⟩ := h; rfl
theorem sRowT : (Try.prog.info? 40).map (·.size) = some 1 := by kernel_rfl
/-- How long the row in a block's first cell is. -/
def rowLen (w : World) (g : Nat) : Nat := match w.cell? ⟨g, 0, none⟩ with
  | some v => lenOf v
  | none => 0
theorem rowLen_blk {w : World} {g T : Nat} {va vb : Value} {xs : List Int} (hb : Blk w g #[va, vb] T) (h : IsRow w va xs) : rowLen w g = xs.length := by
  unfold rowLen
  rw [hb.cell]
  exact h.lenOf
/-- Two rows. -/
structure RwF (w : World) (vd va vb : Value) (ds xs ys : List Int) : Prop where
  d : IsRow w vd ds
  a : IsRow w va xs
  b : IsRow w vb ys
theorem RwF.below {w w' : World} {vd va vb : Value} {ds xs ys : List Int} (h : RwF w vd va vb ds xs ys) (hb : Below w.heap.size w w') : RwF w' vd va vb ds xs ys := ⟨h.d.below hb, h.a.below hb, h.b.below hb⟩
theorem RwF.setRow {w : World} {vd va vb : Value} {ds xs ys : List Int} {g T : Nat} {v0 v1 : Value} (h : RwF w vd va vb ds xs ys) (hB : Blk w g #[v0, v1] T) (h0 : ∃ a n c, v0 = .slice a n c) (h1 : ∃ a n c, v1 = .slice a n c) (cs : Array Value) : RwF (w.setRow g cs) vd va vb ds xs ys :=
  ⟨h.d.setRow hB (two_slices h0 h1 _) cs, h.a.setRow hB (two_slices h0 h1 _) cs, h.b.setRow hB (two_slices h0 h1 _) cs⟩

set_option maxRecDepth 20000 in
set_option maxHeartbeats 2000000 in
theorem reduced_any (vd va vb : Value) (p : Int) (ds xs ys : List Int) (w : World) (hd : IsRow w vd ds) (ha : IsRow w va xs) (hbb : IsRow w vb ys) (hr : Rd p ds xs ys) :
    Calls Try.prog 71 #[.agg #[.int .i64 p, vd], .agg #[va, vb]] w fun e w' => ∃ va vb, e = .returned (.agg #[va, vb]) ∧ IsRow w' va (red p ds 13 xs ys).1 ∧ IsRow w' vb (red p ds 13 xs ys).2 ∧ Below w.heap.size w w' := by
  obtain ⟨hb, hC, hA, hZ⟩ := boxes3 w #[.int .i64 p, vd] #[va, vb] #[.slice none 0 0, .slice none 0 0] 42 46 46
  obtain ⟨R, hR⟩ : ∃ R, red p ds 13 xs ys = R := ⟨_, rfl⟩
  rw [hR]
  have hRH := Lib.hid hR
  have hrH := Lib.hid hr
  have hwH := Lib.hid (RwF.below (RwF.mk hd ha hbb) hb)
  clear hR hr hd ha hbb
  go_enter Try.func71, Try.ntmps71
  go_wp2_with ((with_reducible refine wpl_guard ?_); first | (refine wpl_alloc_arr rfl 46 rfl _ zform ?_))
  simp only [Act.put, List.setIfInBounds_toArray, List.set_cons_zero, List.set_cons_succ, size_alloc]
  go_loopw [7] (fun _ wr => ∃ (n : Nat) (la lb : List Int) (va vb : Value), la.length ≤ n ∧ Hid (Rd p ds la lb) ∧ Hid (red p ds n la lb = R) ∧ Hid (RwF wr vd va vb ds la lb) ∧ Blk wr w.heap.size #[.int .i64 p, vd] 42 ∧ Blk wr (w.heap.size + 1) #[va, vb] 46 ∧ Blk wr (w.heap.size + 1 + 1) #[.slice none 0 0, .slice none 0 0] 46 ∧ Below w.heap.size w wr) (fun _ wr => rowLen wr (w.heap.size + 1))
  case atStart => exact ⟨13, xs, ys, va, vb, hrH.out.frm.2.1, hrH, hRH, hwH, hC, hA, hZ, hb⟩
  case round =>
    clear hC hA hZ hb hRH hrH hwH
    obtain ⟨n, la, lb, va, vb, hn, hr, hR, hw, hC, hA, hZ, hb⟩ := hrel
    have hpl := Lib.hid (rowLen_blk hA hw.out.a)
    have hsa := hw.out.a.slice'
    have hsb := hw.out.b.slice'
    by_cases hg : (la.length : Int) - 1 ≤ gns ds
    · have e := hR.out.symm.trans (red_stop p ds la lb n hg)
      subst e
      have i1 := Lib.hid (fun w (h1 : IsRow w vd ds) (h2 : IsRow w va la) => isReduced_any vd va vb p ds la true w h1 h2 hr.out.d64.le (decide_eq_true hg))
      clear hR hn hpl hr hg
      go_wp2_with ((with_reducible refine wpl_guard ?_); first | (refine wpl_load_str rfl 42 _ rfl _ rfl _ _ hC tcurve scurve ?_) | (refine wpl_load_str rfl 46 _ rfl _ rfl _ _ hA tform sform ?_))
      refine (i1.out _ hw.out.d hw.out.a).mono ?_
      rintro e w1 ⟨rfl, hn⟩
      replace hw := Lib.hid (hw.out.below hn)
      replace hC := hC.keep hn
      replace hA := hA.keep hn
      replace hZ := hZ.keep hn
      replace hb := below_step hb hn
      clear hn
      obtain ⟨a1, n1, c1, rfl⟩ := hsa
      obtain ⟨a2, n2, c2, rfl⟩ := hsb
      have hra := hw.out.a.setRow hZ (two_nils _) #[.slice a1 n1 c1, .slice a2 n2 c2]
      have hrb := hw.out.b.setRow hZ (two_nils _) #[.slice a1 n1 c1, .slice a2 n2 c2]
      have hraH := Lib.hid hra
      have hrbH := Lib.hid hrb
      clear hra hrb
      go_wp2_with ((with_reducible refine wpl_guard ?_); first | (refine wpl_load_str rfl 46 _ rfl _ rfl _ _ hA tform sform ?_) | (refine wpl_store_arr rfl 46 _ _ rfl _ rfl _ rfl _ _ hZ sform rfl (all_two rfl rfl) ?_))
      exact bodyPost_ret (res_s rfl rfl (hZ.setRow_same (cs := #[.slice a1 n1 c1, .slice a2 n2 c2])) tform sform) rfl ⟨_, _, rfl, hraH.out, hrbH.out, below_setRow hb (by omega) _⟩
    · obtain ⟨k, rfl⟩ : ∃ k, n = k + 1 := ⟨n - 1, by have := List.length_pos_iff.2 hr.out.ne; omega⟩
      have hR2 := Lib.hid ((red_go p ds la lb k hg).symm.trans hR.out)
      have hnx := hr.out.next hg
      have i1 := Lib.hid (fun w (h1 : IsRow w vd ds) (h2 : IsRow w va la) => isReduced_any vd va vb p ds la false w h1 h2 hr.out.d64.le (decide_eq_false hg))
      have hp := hr.out.pr
      have hp2 := hp.pos
      have hx := hr.out.x64
      have hy := hr.out.y64
      have hd := hr.out.d64
      have m1 := fun w (h : IsRow w vb lb) => times_any vb vb lb lb p w hp h h hy.po.md hy.po.md (by have := hy.le; omega) (by have := hy.le; omega)
      have hsq := hr.out.sq64
      have hqP : P64 p (mulp p lb lb) := ⟨hp, mulp_Po (by omega) _ _, hsq⟩
      have m2 := fun v w (h1 : IsRow w vd ds) (h2 : IsRow w v (mulp p lb lb)) => combine_any vd v ds (mulp p lb lb) p (-1) w hp h1 h2 hd.po.md hqP.po.md (by decide) (by decide) (by have := hd.le; omega) (by omega)
      have hnP : P64 p (addp p ds (mulp p lb lb) (-1)) := P64.addp hd hqP (-1)
      have m3 := fun v w (h1 : IsRow w v (addp p ds (mulp p lb lb) (-1))) (h2 : IsRow w va la) => divide_any v va _ la p w hp h1 h2 hnP.po hx.po hr.out.ne (by have := hnP.le; omega) (by have := hx.le; omega)
      have hno := nfa_other hr.out
      have hQ := (hnP.quot hx hr.out.ne)
      have hQn : (divp p (addp p ds (mulp p lb lb) (-1)) la).1 ≠ [] := fun e => by
        rw [e] at hno
        have h1 : (mnc p []).length ≤ 0 := scl_length_le p [] _
        rw [hno] at h1
        have h2 := List.length_pos_iff.2 hnx.1.ne
        omega
      obtain ⟨QO, hQO⟩ : ∃ QO, (divp p (addp p ds (mulp p lb lb) (-1)) la).1 = QO := ⟨_, rfl⟩
      obtain ⟨RO, hRO⟩ : ∃ RO, (divp p (addp p ds (mulp p lb lb) (-1)) la).2 = RO := ⟨_, rfl⟩
      rw [hQO] at m3 hno hQ hQn
      rw [hRO] at m3
      clear hQO hRO
      generalize addp p ds (mulp p lb lb) (-1) = SB at *
      generalize mulp p lb lb = SQ at *
      have m5 := fun w => inverse_any p (cf QO (QO.length - 1)) w hp (hQ.po.md _).1 (hQ.po.md _).2
      have hi := invp_spec hp (hQ.po.lead hQn) (hQ.po.md _).2
      unfold mnc scl at hno
      obtain ⟨le, hle⟩ : ∃ le, cf QO (QO.length - 1) = le := ⟨_, rfl⟩
      rw [hle] at m5 hi hno
      have m4 : ∀ v w, IsRow w v QO → Calls Try.prog 79 #[v] w fun e w' => e = .returned (.int .i64 le) ∧ w = w' := fun v w h => hle ▸ lead_any v QO w h
      obtain ⟨iv, hiv⟩ : ∃ iv, invp p le = iv := ⟨_, rfl⟩
      rw [hiv] at m5 hi hno
      have m6 := fun v w (h : IsRow w v QO) => scale_any v QO p iv w hp h hQ.po.md (by omega) (by omega) (by have := hQ.le; omega)
      rw [hno] at m6
      have m7 := fun w (h : IsRow w vb lb) => scale_any vb lb p (-1) w hp h hy.po.md (by decide) (by decide) (by have := hy.le; omega)
      have hsP := P64.addp (P64.nil hp) hy (-1)
      have m8 := fun v v2 w (h : IsRow w v (addp p [] lb (-1))) (h2 : IsRow w v2 (nfa p ds la lb)) => rest_any v v2 _ (nfa p ds la lb) p w hp h h2 hsP.po hnx.1.xP hnx.1.ne (by have := hsP.le; omega) (by have := hnx.1.x64.le; omega)
      rw [show rst p (addp p [] lb (-1)) (nfa p ds la lb) = nfb p ds la lb from rfl] at m8
      have hltn := hnx.2
      have hnR := Lib.hid hnx.1
      clear hR hnx hr hp hp2 hx hy hd hsq hqP hnP hno hQ hQn hi hle hiv hsP hg
      generalize addp p [] lb (-1) = NB0 at *
      generalize nfa p ds la lb = NA at *
      generalize nfb p ds la lb = NB at *
      have m1H := Lib.hid m1
      have m2H := Lib.hid m2
      have m3H := Lib.hid m3
      have m4H := Lib.hid m4
      have m5H := Lib.hid m5
      have m6H := Lib.hid m6
      have m7H := Lib.hid m7
      have m8H := Lib.hid m8
      clear m1 m2 m3 m4 m5 m6 m7 m8
      go_wp2_with ((with_reducible refine wpl_guard ?_); first | (refine wpl_load_str rfl 42 _ rfl _ rfl _ _ hC tcurve scurve ?_) | (refine wpl_load_str rfl 46 _ rfl _ rfl _ _ hA tform sform ?_))
      refine (i1.out _ hw.out.d hw.out.a).mono ?_
      rintro e w1 ⟨rfl, hn⟩
      replace hw := Lib.hid (hw.out.below hn)
      replace hC := hC.keep hn
      replace hA := hA.keep hn
      replace hZ := hZ.keep hn
      replace hb := below_step hb hn
      clear hn
      go_wp2_with fail
      go_upto_region 2 with (fail)
      refine gen_region (ws := w) (w := _) (B := w.heap.size) (by kernel_rfl) (by kernel_rfl) (by kernel_rfl) (by kernel_rfl)
          (fun i => ([fun zv _ => zv = .pointer (some ⟨w.heap.size, 0 + 0, none⟩), fun zv _ => zv = .int .i64 p, fun zv _ => zv = .pointer (some ⟨w.heap.size, 0 + 0, none⟩), fun zv _ => zv = .int .i64 p, fun zv _ => zv = .pointer (some ⟨w.heap.size, 0 + 1, none⟩), fun zv _ => zv = vd, fun zv _ => zv = .pointer (some ⟨w.heap.size, 0 + 0, none⟩), fun zv _ => zv = .int .i64 p, fun zv _ => zv = .pointer (some ⟨w.heap.size + 1, 0 + 1, none⟩), fun zv _ => zv = vb, fun zv _ => zv = .pointer (some ⟨w.heap.size + 1, 0 + 1, none⟩), fun zv _ => zv = vb, fun v w => IsRow w v (SQ), fun v w => IsRow w v (SB), fun zv _ => zv = .pointer (some ⟨w.heap.size + 1, 0 + 0, none⟩), fun zv _ => zv = va, fun v w => ∃ v1 v2, v = .tuple #[v1, v2] ∧ IsRow w v1 (QO) ∧ IsRow w v2 (RO), fun v w => ∃ v1 v2, v = .tuple #[v1, v2] ∧ IsRow w v1 (QO) ∧ IsRow w v2 (RO), fun v w => IsRow w v (QO), fun v w => IsRow w v (RO), fun v w => IsRow w v (QO), fun v w => IsRow w v (RO)] : List (Value → World → Prop)).getD i (fun _ _ => True))
          (fun i => ([false, false, false, false, false, false, false, false, false, false, false, false, false, false, false, false, false, false, false, false, false, false] : List Bool).getD i true)
          0 (fun zk => [].getD zk 0) (fun zk => [].getD zk 0) (fun zk => [].getD zk 0) (fun zk => [].getD zk 0) (fun zk => [].getD zk 0) (fun zk => [].getD zk 0) (fun zk => [].getD zk (fun _ => 0)) (fun zk => [].getD zk (fun _ => 0)) (fun zk => [].getD zk 0) hb (Nat.le_refl _)
          (fun w' => Blk w' (w.heap.size) (#[.int .i64 p, vd]) 42 ∧ Blk w' (w.heap.size + 1) (#[va, vb]) 46 ∧ True) ⟨hC.drew, hA.drew, trivial⟩ (fun w1 w2 h hb => ⟨h.1.keep hb, h.2.1.keep hb, trivial⟩) ?_ ?_ ?_ ?_ ?_ ?_ ?_
      · exact fun k hk => absurd hk (by omega)
      · intro i v w1 w2 h hb
        rcases i with _|_|_|_|_|_|_|_|_|_|_|_|_|_|_|_|_|_|_|_|_|_|i
        · exact h
        · exact h
        · exact h
        · exact h
        · exact h
        · exact h
        · exact h
        · exact h
        · exact h
        · exact h
        · exact h
        · exact h
        · exact (show IsRow w1 v (SQ) from h).below hb
        · exact (show IsRow w1 v (SB) from h).below hb
        · exact h
        · exact h
        · obtain ⟨v1, v2, e, h1, h2⟩ := h; exact ⟨v1, v2, e, h1.below hb, h2.below hb⟩
        · obtain ⟨v1, v2, e, h1, h2⟩ := h; exact ⟨v1, v2, e, h1.below hb, h2.below hb⟩
        · exact (show IsRow w1 v (QO) from h).below hb
        · exact (show IsRow w1 v (RO) from h).below hb
        · exact (show IsRow w1 v (QO) from h).below hb
        · exact (show IsRow w1 v (RO) from h).below hb
        · exact h
      · exact fun k hk => absurd hk (by omega)
      · exact fun k hk => absurd hk (by omega)
      · kernel_rfl
      · intro i o ho hz a w2 hBs hSx hBl hrd hpar
        rcases i with _|_|_|_|_|_|_|_|_|_|_|_|_|_|_|_|_|_|_|_|_|_|i
        · obtain rfl := Option.some.inj ho
          exact wpv_of (wp_fieldB 42 _ 0 rfl 0 1 fcurve0 (w.heap.size) 0 (hpar 2 _ (by kernel_rfl) (by kernel_rfl))) (fun _ _ => rfl)
        · obtain rfl := Option.some.inj ho
          obtain ⟨_, e12⟩ : ∃ _w : World, a.eval (.tmp 12) = .pointer (some ⟨w.heap.size, 0 + 0, none⟩) := (hrd 0 _ 12 rfl rfl (by kernel_rfl) (by kernel_rfl) (by decide)).1
          exact wpv_of (wp_load_cell 38 _ rfl _ e12 .i64 uPrime _ (by rw [hSx.1.cell]; rfl)) (fun _ _ => rfl)
        · obtain rfl := Option.some.inj ho
          exact wpv_of (wp_fieldB 42 _ 0 rfl 0 1 fcurve0 (w.heap.size) 0 (hpar 2 _ (by kernel_rfl) (by kernel_rfl))) (fun _ _ => rfl)
        · obtain rfl := Option.some.inj ho
          obtain ⟨_, e14⟩ : ∃ _w : World, a.eval (.tmp 14) = .pointer (some ⟨w.heap.size, 0 + 0, none⟩) := (hrd 2 _ 14 rfl rfl (by kernel_rfl) (by kernel_rfl) (by decide)).1
          exact wpv_of (wp_load_cell 38 _ rfl _ e14 .i64 uPrime _ (by rw [hSx.1.cell]; rfl)) (fun _ _ => rfl)
        · obtain rfl := Option.some.inj ho
          exact wpv_of (wp_fieldB 42 _ 1 rfl 1 1 fcurve1 (w.heap.size) 0 (hpar 2 _ (by kernel_rfl) (by kernel_rfl))) (fun _ _ => rfl)
        · obtain rfl := Option.some.inj ho
          obtain ⟨_, e16⟩ : ∃ _w : World, a.eval (.tmp 16) = .pointer (some ⟨w.heap.size, 0 + 1, none⟩) := (hrd 4 _ 16 rfl rfl (by kernel_rfl) (by kernel_rfl) (by decide)).1
          exact wpv_of (wp_load_slice 40 2 _ rfl _ e16 uRowT _ (by rw [hSx.1.cell]; rfl)) (fun _ _ => rfl)
        · obtain rfl := Option.some.inj ho
          exact wpv_of (wp_fieldB 42 _ 0 rfl 0 1 fcurve0 (w.heap.size) 0 (hpar 2 _ (by kernel_rfl) (by kernel_rfl))) (fun _ _ => rfl)
        · obtain rfl := Option.some.inj ho
          obtain ⟨_, e18⟩ : ∃ _w : World, a.eval (.tmp 18) = .pointer (some ⟨w.heap.size, 0 + 0, none⟩) := (hrd 6 _ 18 rfl rfl (by kernel_rfl) (by kernel_rfl) (by decide)).1
          exact wpv_of (wp_load_cell 38 _ rfl _ e18 .i64 uPrime _ (by rw [hSx.1.cell]; rfl)) (fun _ _ => rfl)
        · obtain rfl := Option.some.inj ho
          exact wpv_of (wp_fieldB 46 _ 1 rfl 1 1 fform1 (w.heap.size + 1) 0 (hpar 3 _ (by kernel_rfl) (by kernel_rfl))) (fun _ _ => rfl)
        · obtain rfl := Option.some.inj ho
          obtain ⟨_, e20⟩ : ∃ _w : World, a.eval (.tmp 20) = .pointer (some ⟨w.heap.size + 1, 0 + 1, none⟩) := (hrd 8 _ 20 rfl rfl (by kernel_rfl) (by kernel_rfl) (by decide)).1
          exact wpv_of (wp_load_slice 40 2 _ rfl _ e20 uRowT _ (by rw [hSx.2.1.cell]; rfl)) (fun _ _ => rfl)
        · obtain rfl := Option.some.inj ho
          exact wpv_of (wp_fieldB 46 _ 1 rfl 1 1 fform1 (w.heap.size + 1) 0 (hpar 3 _ (by kernel_rfl) (by kernel_rfl))) (fun _ _ => rfl)
        · obtain rfl := Option.some.inj ho
          obtain ⟨_, e22⟩ : ∃ _w : World, a.eval (.tmp 22) = .pointer (some ⟨w.heap.size + 1, 0 + 1, none⟩) := (hrd 10 _ 22 rfl rfl (by kernel_rfl) (by kernel_rfl) (by decide)).1
          exact wpv_of (wp_load_slice 40 2 _ rfl _ e22 uRowT _ (by rw [hSx.2.1.cell]; rfl)) (fun _ _ => rfl)
        · obtain rfl := Option.some.inj ho
          obtain ⟨_, e19⟩ : ∃ _w : World, a.eval (.tmp 19) = .int .i64 p := (hrd 7 _ 19 rfl rfl (by kernel_rfl) (by kernel_rfl) (by decide)).1
          obtain ⟨_, e21⟩ : ∃ _w : World, a.eval (.tmp 21) = vb := (hrd 9 _ 21 rfl rfl (by kernel_rfl) (by kernel_rfl) (by decide)).1
          obtain ⟨_, e23⟩ : ∃ _w : World, a.eval (.tmp 23) = vb := (hrd 11 _ 23 rfl rfl (by kernel_rfl) (by kernel_rfl) (by decide)).1
          exact wpv_call 50 [.tmp 19, .tmp 21, .tmp 23] _ rfl [.int .i64 p, vb, vb] (by simp only [List.map_cons, List.map_nil, e19, e21, e23]) Try.call50 (m1H.out w2 (hw.out.b.below (hBl rfl)))
        · obtain rfl := Option.some.inj ho
          obtain ⟨_, e15⟩ : ∃ _w : World, a.eval (.tmp 15) = .int .i64 p := (hrd 3 _ 15 rfl rfl (by kernel_rfl) (by kernel_rfl) (by decide)).1
          obtain ⟨_, e17⟩ : ∃ _w : World, a.eval (.tmp 17) = vd := (hrd 5 _ 17 rfl rfl (by kernel_rfl) (by kernel_rfl) (by decide)).1
          have h24 : (fun v w => IsRow w v (SQ)) (a.eval (.tmp 24)) w2 := (hrd 12 _ 24 rfl rfl (by kernel_rfl) (by kernel_rfl) (by decide)).2 rfl
          generalize e24 : a.eval (.tmp 24) = v24 at h24
          exact wpv_call 69 [.tmp 15, .tmp 17, .tmp 24, .const (.int .i64 (-1))] _ rfl [.int .i64 p, vd, v24, .int .i64 (-1)] (by simp only [List.map_cons, List.map_nil, e15, e17, e24, eval_const]) Try.call69 (m2H.out _ w2 (hw.out.d.below (hBl rfl)) h24)
        · obtain rfl := Option.some.inj ho
          exact wpv_of (wp_fieldB 46 _ 0 rfl 0 1 fform0 (w.heap.size + 1) 0 (hpar 3 _ (by kernel_rfl) (by kernel_rfl))) (fun _ _ => rfl)
        · obtain rfl := Option.some.inj ho
          obtain ⟨_, e26⟩ : ∃ _w : World, a.eval (.tmp 26) = .pointer (some ⟨w.heap.size + 1, 0 + 0, none⟩) := (hrd 14 _ 26 rfl rfl (by kernel_rfl) (by kernel_rfl) (by decide)).1
          exact wpv_of (wp_load_slice 40 2 _ rfl _ e26 uRowT _ (by rw [hSx.2.1.cell]; rfl)) (fun _ _ => rfl)
        · obtain rfl := Option.some.inj ho
          obtain ⟨_, e13⟩ : ∃ _w : World, a.eval (.tmp 13) = .int .i64 p := (hrd 1 _ 13 rfl rfl (by kernel_rfl) (by kernel_rfl) (by decide)).1
          have h25 : (fun v w => IsRow w v (SB)) (a.eval (.tmp 25)) w2 := (hrd 13 _ 25 rfl rfl (by kernel_rfl) (by kernel_rfl) (by decide)).2 rfl
          generalize e25 : a.eval (.tmp 25) = v25 at h25
          obtain ⟨_, e27⟩ : ∃ _w : World, a.eval (.tmp 27) = va := (hrd 15 _ 27 rfl rfl (by kernel_rfl) (by kernel_rfl) (by decide)).1
          exact wpv_call 70 [.tmp 13, .tmp 25, .tmp 27] _ rfl [.int .i64 p, v25, va] (by simp only [List.map_cons, List.map_nil, e13, e25, e27]) Try.call70 ((m3H.out _ w2 h25 (hw.out.a.below (hBl rfl))).mono fun _ _ ⟨v1, v2, h1, h2, h3, h4⟩ => ⟨_, h1, ⟨v1, v2, rfl, h2, h3⟩, h4⟩)
        · obtain rfl := Option.some.inj ho
          have h28 : (fun v w => ∃ v1 v2, v = .tuple #[v1, v2] ∧ IsRow w v1 (QO) ∧ IsRow w v2 (RO)) (a.eval (.tmp 28)) w2 := (hrd 16 _ 28 rfl rfl (by kernel_rfl) (by kernel_rfl) (by decide)).2 rfl
          generalize e28 : a.eval (.tmp 28) = v28 at h28
          exact wpv_of (wp_move _ _ rfl e28) (fun w' hb => by have h := h28; obtain ⟨v1, v2, e, h1, h2⟩ := h; exact ⟨v1, v2, e, h1.below hb, h2.below hb⟩)
        · obtain rfl := Option.some.inj ho
          have h11 : (fun v w => ∃ v1 v2, v = .tuple #[v1, v2] ∧ IsRow w v1 (QO) ∧ IsRow w v2 (RO)) (a.eval (.tmp 11)) w2 := (hrd 17 _ 11 rfl rfl (by kernel_rfl) (by kernel_rfl) (by decide)).2 rfl
          generalize e11 : a.eval (.tmp 11) = v11 at h11
          obtain ⟨q1, q2, eq, k1, k2⟩ := h11
          exact wpv_of (wp_extract _ 0 #[q1, q2] _ rfl (e11.trans eq) rfl) (fun w' hb => k1.below hb)
        · obtain rfl := Option.some.inj ho
          have h11 : (fun v w => ∃ v1 v2, v = .tuple #[v1, v2] ∧ IsRow w v1 (QO) ∧ IsRow w v2 (RO)) (a.eval (.tmp 11)) w2 := (hrd 17 _ 11 rfl rfl (by kernel_rfl) (by kernel_rfl) (by decide)).2 rfl
          generalize e11 : a.eval (.tmp 11) = v11 at h11
          obtain ⟨q1, q2, eq, k1, k2⟩ := h11
          exact wpv_of (wp_extract _ 1 #[q1, q2] _ rfl (e11.trans eq) rfl) (fun w' hb => k2.below hb)
        · obtain rfl := Option.some.inj ho
          have h29 : (fun v w => IsRow w v (QO)) (a.eval (.tmp 29)) w2 := (hrd 18 _ 29 rfl rfl (by kernel_rfl) (by kernel_rfl) (by decide)).2 rfl
          generalize e29 : a.eval (.tmp 29) = v29 at h29
          exact wpv_of (wp_assign _ _ rfl e29) (fun w' hb => h29.below hb)
        · obtain rfl := Option.some.inj ho
          have h30 : (fun v w => IsRow w v (RO)) (a.eval (.tmp 30)) w2 := (hrd 19 _ 30 rfl rfl (by kernel_rfl) (by kernel_rfl) (by decide)).2 rfl
          generalize e30 : a.eval (.tmp 30) = v30 at h30
          exact wpv_of (wp_assign _ _ rfl e30) (fun w' hb => h30.below hb)
        · simp at ho
      intro vals xE hBx hSx hS0 hcs hrs
      obtain ⟨hBl, hc0⟩ := hS0 rfl
      have e0 : vals 0 = .pointer (some ⟨w.heap.size, 0 + 0, none⟩) := hc0 0 (by simp)
      have e1 : vals 1 = .int .i64 p := hc0 1 (by simp)
      have e2 : vals 2 = .pointer (some ⟨w.heap.size, 0 + 0, none⟩) := hc0 2 (by simp)
      have e3 : vals 3 = .int .i64 p := hc0 3 (by simp)
      have e4 : vals 4 = .pointer (some ⟨w.heap.size, 0 + 1, none⟩) := hc0 4 (by simp)
      have e5 : vals 5 = vd := hc0 5 (by simp)
      have e6 : vals 6 = .pointer (some ⟨w.heap.size, 0 + 0, none⟩) := hc0 6 (by simp)
      have e7 : vals 7 = .int .i64 p := hc0 7 (by simp)
      have e8 : vals 8 = .pointer (some ⟨w.heap.size + 1, 0 + 1, none⟩) := hc0 8 (by simp)
      have e9 : vals 9 = vb := hc0 9 (by simp)
      have e10 : vals 10 = .pointer (some ⟨w.heap.size + 1, 0 + 1, none⟩) := hc0 10 (by simp)
      have e11 : vals 11 = vb := hc0 11 (by simp)
      have cE12 : (fun v w => IsRow w v (SQ)) (vals 12) xE := hc0 12 (by simp)
      generalize ev12 : vals 12 = uE12 at cE12
      have cE13 : (fun v w => IsRow w v (SB)) (vals 13) xE := hc0 13 (by simp)
      generalize ev13 : vals 13 = uE13 at cE13
      have e14 : vals 14 = .pointer (some ⟨w.heap.size + 1, 0 + 0, none⟩) := hc0 14 (by simp)
      have e15 : vals 15 = va := hc0 15 (by simp)
      have cE16 : (fun v w => ∃ v1 v2, v = .tuple #[v1, v2] ∧ IsRow w v1 (QO) ∧ IsRow w v2 (RO)) (vals 16) xE := hc0 16 (by simp)
      generalize ev16 : vals 16 = uE16 at cE16
      have cE17 : (fun v w => ∃ v1 v2, v = .tuple #[v1, v2] ∧ IsRow w v1 (QO) ∧ IsRow w v2 (RO)) (vals 17) xE := hc0 17 (by simp)
      generalize ev17 : vals 17 = uE17 at cE17
      have cE18 : (fun v w => IsRow w v (QO)) (vals 18) xE := hc0 18 (by simp)
      generalize ev18 : vals 18 = uE18 at cE18
      have cE19 : (fun v w => IsRow w v (RO)) (vals 19) xE := hc0 19 (by simp)
      generalize ev19 : vals 19 = uE19 at cE19
      have cE20 : (fun v w => IsRow w v (QO)) (vals 20) xE := hc0 20 (by simp)
      generalize ev20 : vals 20 = uE20 at cE20
      have cE21 : (fun v w => IsRow w v (RO)) (vals 21) xE := hc0 21 (by simp)
      generalize ev21 : vals 21 = uE21 at cE21
      simp only [List.length_cons, List.length_nil, Nat.zero_add, Nat.reduceAdd, List.replicate, putAll, if_true, Act.put, List.setIfInBounds_toArray, List.set_cons_zero, List.set_cons_succ, e0, e1, e2, e3, e4, e5, e6, e7, e8, e9, e10, e11, ev12, ev13, e14, e15, ev16, ev17, ev18, ev19, ev20, ev21]
      replace hZ := hZ.keep hBl
      replace hC := hSx.1
      replace hA := hSx.2.1
      clear hcs hrs hS0 hSx e0 e1 e2 e3 e4 e5 e6 e7 e8 e9 e10 e11 ev12 ev13 e14 e15 ev16 ev17 ev18 ev19 ev20 ev21 hc0
      replace hw := Lib.hid (hw.out.below hBl)
      replace hb := hBx
      clear hBl hBx
      have hQH := Lib.hid (show IsRow xE uE20 QO from cE20)
      clear cE12 cE13 cE16 cE17 cE18 cE19 cE20 cE21
      go_wp2_with fail
      go_upto_region 3 with (fail)
      refine gen_last (w := _) (by kernel_rfl) (by kernel_rfl) (by kernel_rfl) 10 (by kernel_rfl)
          (fun i => ([fun zv _ => zv = .pointer (some ⟨w.heap.size, 0 + 0, none⟩), fun zv _ => zv = .int .i64 p, fun v w => IsRow w v (QO), fun zv _ => zv = .pointer (some ⟨w.heap.size, 0 + 0, none⟩), fun zv _ => zv = .int .i64 p, fun v w => IsRow w v (QO), fun zv _ => zv = .int .i64 le, fun zv _ => zv = .int .i64 iv, fun v w => IsRow w v (NA), fun zv _ => zv = .pointer (some ⟨w.heap.size + 1, 0 + 0, none⟩), fun _ _ => True] : List (Value → World → Prop)).getD i (fun _ _ => True))
          (fun w' => Blk w' (w.heap.size) (#[.int .i64 p, vd]) 42 ∧ Blk w' (w.heap.size + 1) (#[va, vb]) 46 ∧ True) ⟨hC.drew, hA.drew, trivial⟩ (fun w1 w2 h hb => ⟨h.1.keep hb, h.2.1.keep hb, trivial⟩) ?_ ?_ ?_
      · intro i v w1 w2 h hb
        rcases i with _|_|_|_|_|_|_|_|_|_|_|i
        · exact h
        · exact h
        · exact (show IsRow w1 v (QO) from h).below hb
        · exact h
        · exact h
        · exact (show IsRow w1 v (QO) from h).below hb
        · exact h
        · exact h
        · exact (show IsRow w1 v (NA) from h).below hb
        · exact h
        · exact h
        · exact h
      · intro i o ho hiZ a w2 hBl hSx hrd hpar
        rcases i with _|_|_|_|_|_|_|_|_|_|_|i
        · obtain rfl := Option.some.inj ho
          refine .inl ⟨rfl, ?_⟩
          exact wpv_of (wp_fieldB 42 _ 0 rfl 0 1 fcurve0 (w.heap.size) 0 (hpar 2 _ (by kernel_rfl) (by kernel_rfl))) (fun _ _ => rfl)
        · obtain rfl := Option.some.inj ho
          refine .inl ⟨rfl, ?_⟩
          have e31 : a.eval (.tmp 31) = .pointer (some ⟨w.heap.size, 0 + 0, none⟩) := hrd 0 _ 31 rfl rfl (by kernel_rfl) (by kernel_rfl)
          exact wpv_of (wp_load_cell 38 _ rfl _ e31 .i64 uPrime _ (by rw [hSx.1.cell]; rfl)) (fun _ _ => rfl)
        · obtain rfl := Option.some.inj ho
          refine .inl ⟨rfl, ?_⟩
          have e5 : a.eval (.tmp 5) = uE20 := hpar 5 _ (by kernel_rfl) (by kernel_rfl)
          have h5 := (hQH.out).below hBl
          exact wpv_of (wp_move _ _ rfl e5) (fun w' hb => by have h := h5; exact h5.below hb)
        · obtain rfl := Option.some.inj ho
          refine .inl ⟨rfl, ?_⟩
          exact wpv_of (wp_fieldB 42 _ 0 rfl 0 1 fcurve0 (w.heap.size) 0 (hpar 2 _ (by kernel_rfl) (by kernel_rfl))) (fun _ _ => rfl)
        · obtain rfl := Option.some.inj ho
          refine .inl ⟨rfl, ?_⟩
          have e34 : a.eval (.tmp 34) = .pointer (some ⟨w.heap.size, 0 + 0, none⟩) := hrd 3 _ 34 rfl rfl (by kernel_rfl) (by kernel_rfl)
          exact wpv_of (wp_load_cell 38 _ rfl _ e34 .i64 uPrime _ (by rw [hSx.1.cell]; rfl)) (fun _ _ => rfl)
        · obtain rfl := Option.some.inj ho
          refine .inl ⟨rfl, ?_⟩
          have e5 : a.eval (.tmp 5) = uE20 := hpar 5 _ (by kernel_rfl) (by kernel_rfl)
          have h5 := (hQH.out).below hBl
          exact wpv_of (wp_move _ _ rfl e5) (fun w' hb => by have h := h5; exact h5.below hb)
        · obtain rfl := Option.some.inj ho
          refine .inl ⟨rfl, ?_⟩
          have h36 : (fun v w => IsRow w v (QO)) (a.eval (.tmp 36)) w2 := hrd 5 _ 36 rfl rfl (by kernel_rfl) (by kernel_rfl)
          generalize e36 : a.eval (.tmp 36) = v36 at h36
          exact wpv_call 79 [.tmp 36] _ rfl [v36] (by simp only [List.map_cons, List.map_nil, e36]) Try.call79 ((m4H.out _ w2 h36).mono fun _ _ ⟨h1, h2⟩ => ⟨_, h1, rfl, h2 ▸ Below.refl _ _⟩)
        · obtain rfl := Option.some.inj ho
          refine .inl ⟨rfl, ?_⟩
          have e35 : a.eval (.tmp 35) = .int .i64 p := hrd 4 _ 35 rfl rfl (by kernel_rfl) (by kernel_rfl)
          have e37 : a.eval (.tmp 37) = .int .i64 le := hrd 6 _ 37 rfl rfl (by kernel_rfl) (by kernel_rfl)
          exact wpv_call 81 [.tmp 35, .tmp 37] _ rfl [.int .i64 p, .int .i64 le] (by simp only [List.map_cons, List.map_nil, e35, e37]) Try.call81 ((m5H.out w2).mono fun _ _ ⟨h1, h2⟩ => ⟨_, h1, rfl, h2 ▸ Below.refl _ _⟩)
        · obtain rfl := Option.some.inj ho
          refine .inl ⟨rfl, ?_⟩
          have e32 : a.eval (.tmp 32) = .int .i64 p := hrd 1 _ 32 rfl rfl (by kernel_rfl) (by kernel_rfl)
          have h33 : (fun v w => IsRow w v (QO)) (a.eval (.tmp 33)) w2 := hrd 2 _ 33 rfl rfl (by kernel_rfl) (by kernel_rfl)
          generalize e33 : a.eval (.tmp 33) = v33 at h33
          have e38 : a.eval (.tmp 38) = .int .i64 iv := hrd 7 _ 38 rfl rfl (by kernel_rfl) (by kernel_rfl)
          exact wpv_call 82 [.tmp 32, .tmp 33, .tmp 38] _ rfl [.int .i64 p, v33, .int .i64 iv] (by simp only [List.map_cons, List.map_nil, e32, e33, e38]) Try.call82 (m6H.out _ w2 h33)
        · obtain rfl := Option.some.inj ho
          refine .inl ⟨rfl, ?_⟩
          exact wpv_of (wp_fieldB 46 _ 0 rfl 0 1 fform0 (w.heap.size + 1) 0 (hpar 3 _ (by kernel_rfl) (by kernel_rfl))) (fun _ _ => rfl)
        · obtain rfl := Option.some.inj ho
          exact absurd rfl hiZ
        · simp at ho
      intro oZ hoZ vals xF hBx hSx hc0
      obtain rfl := Option.some.inj hoZ
      clear hoZ
      have e0 : vals 0 = .pointer (some ⟨w.heap.size, 0 + 0, none⟩) := hc0 0 (by simp) (by decide)
      have e1 : vals 1 = .int .i64 p := hc0 1 (by simp) (by decide)
      have cF2 : (fun v w => IsRow w v (QO)) (vals 2) xF := hc0 2 (by simp) (by decide)
      generalize ev2 : vals 2 = uF2 at cF2
      have e3 : vals 3 = .pointer (some ⟨w.heap.size, 0 + 0, none⟩) := hc0 3 (by simp) (by decide)
      have e4 : vals 4 = .int .i64 p := hc0 4 (by simp) (by decide)
      have cF5 : (fun v w => IsRow w v (QO)) (vals 5) xF := hc0 5 (by simp) (by decide)
      generalize ev5 : vals 5 = uF5 at cF5
      have e6 : vals 6 = .int .i64 le := hc0 6 (by simp) (by decide)
      have e7 : vals 7 = .int .i64 iv := hc0 7 (by simp) (by decide)
      have cF8 : (fun v w => IsRow w v (NA)) (vals 8) xF := hc0 8 (by simp) (by decide)
      generalize ev8 : vals 8 = uF8 at cF8
      have e9 : vals 9 = .pointer (some ⟨w.heap.size + 1, 0 + 0, none⟩) := hc0 9 (by simp) (by decide)
      refine ⟨rfl, ?_⟩
      simp only [List.length_cons, List.length_nil, Nat.zero_add, Nat.reduceAdd, List.replicate, seenAll, Bool.false_eq_true, if_false, putAll, if_true, Act.put, List.setIfInBounds_toArray, List.set_cons_zero, List.set_cons_succ, e0, e1, ev2, e3, e4, ev5, e6, e7, ev8, e9]
      replace hZ := hZ.keep hBx
      replace hC := hSx.1
      replace hA := hSx.2.1
      replace hb := below_step hb hBx
      clear hc0 hSx e0 e1 ev2 e3 e4 ev5 e6 e7 ev8 e9
      replace hw := Lib.hid (hw.out.below hBx)
      have hN := show IsRow xF uF8 NA from cF8
      clear cF8 hBx hQH
      have hsn := hN.slice'
      refine wp_store_two0 40 _ _ rfl (w.heap.size + 1) rfl uF8 va vb rfl _ hA sRowT (one_slice hsn) ?_
      have hw2 := Lib.hid (hw.out.setRow hA hsa hsb #[uF8, vb])
      have hN2 := Lib.hid (hN.setRow hA (two_slices hsa hsb _) #[uF8, vb])
      have hA2 := hA.setRow_same (cs := #[uF8, vb])
      have hC2 := hC.setRow_other (g := w.heap.size + 1) (cs := #[uF8, vb]) (by omega)
      have hZ2 := hZ.setRow_other (g := w.heap.size + 1) (cs := #[uF8, vb]) (by omega)
      have hb2 := below_setRow hb (g := w.heap.size + 1) (by omega) #[uF8, vb]
      clear hw hN hA hC hZ hb
      generalize World.setRow xF (w.heap.size + 1) #[uF8, vb] = v1 at *
      go_wp2_with fail
      go_upto_region 4 with (fail)
      refine gen_last (w := _) (by kernel_rfl) (by kernel_rfl) (by kernel_rfl) 11 (by kernel_rfl)
          (fun i => ([fun zv _ => zv = .pointer (some ⟨w.heap.size, 0 + 0, none⟩), fun zv _ => zv = .int .i64 p, fun zv _ => zv = .pointer (some ⟨w.heap.size, 0 + 0, none⟩), fun zv _ => zv = .int .i64 p, fun zv _ => zv = .pointer (some ⟨w.heap.size + 1, 0 + 1, none⟩), fun zv _ => zv = vb, fun v w => IsRow w v (NB0), fun zv _ => zv = .pointer (some ⟨w.heap.size + 1, 0 + 0, none⟩), fun zv _ => zv = uF8, fun v w => IsRow w v (NB), fun zv _ => zv = .pointer (some ⟨w.heap.size + 1, 0 + 1, none⟩), fun _ _ => True] : List (Value → World → Prop)).getD i (fun _ _ => True))
          (fun w' => Blk w' (w.heap.size) (#[.int .i64 p, vd]) 42 ∧ Blk w' (w.heap.size + 1) (#[uF8, vb]) 46 ∧ True) ⟨hC2.drew, hA2.drew, trivial⟩ (fun w1 w2 h hb => ⟨h.1.keep hb, h.2.1.keep hb, trivial⟩) ?_ ?_ ?_
      · intro i v w1 w2 h hb
        rcases i with _|_|_|_|_|_|_|_|_|_|_|_|i
        · exact h
        · exact h
        · exact h
        · exact h
        · exact h
        · exact h
        · exact (show IsRow w1 v (NB0) from h).below hb
        · exact h
        · exact h
        · exact (show IsRow w1 v (NB) from h).below hb
        · exact h
        · exact h
        · exact h
      · intro i o ho hiZ a w2 hBl hSx hrd hpar
        rcases i with _|_|_|_|_|_|_|_|_|_|_|_|i
        · obtain rfl := Option.some.inj ho
          refine .inl ⟨rfl, ?_⟩
          exact wpv_of (wp_fieldB 42 _ 0 rfl 0 1 fcurve0 (w.heap.size) 0 (hpar 2 _ (by kernel_rfl) (by kernel_rfl))) (fun _ _ => rfl)
        · obtain rfl := Option.some.inj ho
          refine .inl ⟨rfl, ?_⟩
          have e41 : a.eval (.tmp 41) = .pointer (some ⟨w.heap.size, 0 + 0, none⟩) := hrd 0 _ 41 rfl rfl (by kernel_rfl) (by kernel_rfl)
          exact wpv_of (wp_load_cell 38 _ rfl _ e41 .i64 uPrime _ (by rw [hSx.1.cell]; rfl)) (fun _ _ => rfl)
        · obtain rfl := Option.some.inj ho
          refine .inl ⟨rfl, ?_⟩
          exact wpv_of (wp_fieldB 42 _ 0 rfl 0 1 fcurve0 (w.heap.size) 0 (hpar 2 _ (by kernel_rfl) (by kernel_rfl))) (fun _ _ => rfl)
        · obtain rfl := Option.some.inj ho
          refine .inl ⟨rfl, ?_⟩
          have e43 : a.eval (.tmp 43) = .pointer (some ⟨w.heap.size, 0 + 0, none⟩) := hrd 2 _ 43 rfl rfl (by kernel_rfl) (by kernel_rfl)
          exact wpv_of (wp_load_cell 38 _ rfl _ e43 .i64 uPrime _ (by rw [hSx.1.cell]; rfl)) (fun _ _ => rfl)
        · obtain rfl := Option.some.inj ho
          refine .inl ⟨rfl, ?_⟩
          exact wpv_of (wp_fieldB 46 _ 1 rfl 1 1 fform1 (w.heap.size + 1) 0 (hpar 3 _ (by kernel_rfl) (by kernel_rfl))) (fun _ _ => rfl)
        · obtain rfl := Option.some.inj ho
          refine .inl ⟨rfl, ?_⟩
          have e45 : a.eval (.tmp 45) = .pointer (some ⟨w.heap.size + 1, 0 + 1, none⟩) := hrd 4 _ 45 rfl rfl (by kernel_rfl) (by kernel_rfl)
          exact wpv_of (wp_load_slice 40 2 _ rfl _ e45 uRowT _ (by rw [hSx.2.1.cell]; rfl)) (fun _ _ => rfl)
        · obtain rfl := Option.some.inj ho
          refine .inl ⟨rfl, ?_⟩
          have e44 : a.eval (.tmp 44) = .int .i64 p := hrd 3 _ 44 rfl rfl (by kernel_rfl) (by kernel_rfl)
          have e46 : a.eval (.tmp 46) = vb := hrd 5 _ 46 rfl rfl (by kernel_rfl) (by kernel_rfl)
          exact wpv_call 82 [.tmp 44, .tmp 46, .const (.int .i64 (-1))] _ rfl [.int .i64 p, vb, .int .i64 (-1)] (by simp only [List.map_cons, List.map_nil, e44, e46, eval_const]) Try.call82 (m7H.out w2 (hw2.out.b.below hBl))
        · obtain rfl := Option.some.inj ho
          refine .inl ⟨rfl, ?_⟩
          exact wpv_of (wp_fieldB 46 _ 0 rfl 0 1 fform0 (w.heap.size + 1) 0 (hpar 3 _ (by kernel_rfl) (by kernel_rfl))) (fun _ _ => rfl)
        · obtain rfl := Option.some.inj ho
          refine .inl ⟨rfl, ?_⟩
          have e48 : a.eval (.tmp 48) = .pointer (some ⟨w.heap.size + 1, 0 + 0, none⟩) := hrd 7 _ 48 rfl rfl (by kernel_rfl) (by kernel_rfl)
          exact wpv_of (wp_load_slice 40 2 _ rfl _ e48 uRowT _ (by rw [hSx.2.1.cell]; rfl)) (fun _ _ => rfl)
        · obtain rfl := Option.some.inj ho
          refine .inl ⟨rfl, ?_⟩
          have e42 : a.eval (.tmp 42) = .int .i64 p := hrd 1 _ 42 rfl rfl (by kernel_rfl) (by kernel_rfl)
          have h47 : (fun v w => IsRow w v (NB0)) (a.eval (.tmp 47)) w2 := hrd 6 _ 47 rfl rfl (by kernel_rfl) (by kernel_rfl)
          generalize e47 : a.eval (.tmp 47) = v47 at h47
          have e49 : a.eval (.tmp 49) = uF8 := hrd 8 _ 49 rfl rfl (by kernel_rfl) (by kernel_rfl)
          exact wpv_call 49 [.tmp 42, .tmp 47, .tmp 49] _ rfl [.int .i64 p, v47, uF8] (by simp only [List.map_cons, List.map_nil, e42, e47, e49]) Try.call49 (m8H.out _ _ w2 h47 (hN2.out.below hBl))
        · obtain rfl := Option.some.inj ho
          refine .inl ⟨rfl, ?_⟩
          exact wpv_of (wp_fieldB 46 _ 1 rfl 1 1 fform1 (w.heap.size + 1) 0 (hpar 3 _ (by kernel_rfl) (by kernel_rfl))) (fun _ _ => rfl)
        · obtain rfl := Option.some.inj ho
          exact absurd rfl hiZ
        · simp at ho
      intro oZ hoZ vals xH hBx hSx hc0
      obtain rfl := Option.some.inj hoZ
      clear hoZ
      have e0 : vals 0 = .pointer (some ⟨w.heap.size, 0 + 0, none⟩) := hc0 0 (by simp) (by decide)
      have e1 : vals 1 = .int .i64 p := hc0 1 (by simp) (by decide)
      have e2 : vals 2 = .pointer (some ⟨w.heap.size, 0 + 0, none⟩) := hc0 2 (by simp) (by decide)
      have e3 : vals 3 = .int .i64 p := hc0 3 (by simp) (by decide)
      have e4 : vals 4 = .pointer (some ⟨w.heap.size + 1, 0 + 1, none⟩) := hc0 4 (by simp) (by decide)
      have e5 : vals 5 = vb := hc0 5 (by simp) (by decide)
      have cH6 : (fun v w => IsRow w v (NB0)) (vals 6) xH := hc0 6 (by simp) (by decide)
      generalize ev6 : vals 6 = uH6 at cH6
      have e7 : vals 7 = .pointer (some ⟨w.heap.size + 1, 0 + 0, none⟩) := hc0 7 (by simp) (by decide)
      have e8 : vals 8 = uF8 := hc0 8 (by simp) (by decide)
      have cH9 : (fun v w => IsRow w v (NB)) (vals 9) xH := hc0 9 (by simp) (by decide)
      generalize ev9 : vals 9 = uH9 at cH9
      have e10 : vals 10 = .pointer (some ⟨w.heap.size + 1, 0 + 1, none⟩) := hc0 10 (by simp) (by decide)
      refine ⟨rfl, ?_⟩
      simp only [List.length_cons, List.length_nil, Nat.zero_add, Nat.reduceAdd, List.replicate, seenAll, Bool.false_eq_true, if_false, putAll, if_true, Act.put, List.setIfInBounds_toArray, List.set_cons_zero, List.set_cons_succ, e0, e1, e2, e3, e4, e5, ev6, e7, e8, ev9, e10]
      replace hZ2 := hZ2.keep hBx
      replace hC2 := hSx.1
      replace hA2 := hSx.2.1
      replace hb2 := below_step hb2 hBx
      clear hc0 hSx e0 e1 e2 e3 e4 e5 ev6 e7 e8 ev9 e10
      replace hw2 := Lib.hid (hw2.out.below hBx)
      replace hN2 := Lib.hid (hN2.out.below hBx)
      have hM := show IsRow xH uH9 NB from cH9
      clear cH9 hBx
      have hsm := hM.slice'
      refine wp_store_two1 40 _ _ rfl (w.heap.size + 1) rfl uH9 uF8 vb rfl _ hA2 sRowT (one_slice hsm) ?_
      have hw3 := Lib.hid (RwF.mk (hw2.out.d.setRow hA2 (two_slices hsn hsb _) #[uF8, uH9]) (hN2.out.setRow hA2 (two_slices hsn hsb _) #[uF8, uH9]) (hM.setRow hA2 (two_slices hsn hsb _) #[uF8, uH9]))
      have hA3 := hA2.setRow_same (cs := #[uF8, uH9])
      have hC3 := hC2.setRow_other (g := w.heap.size + 1) (cs := #[uF8, uH9]) (by omega)
      have hZ3 := hZ2.setRow_other (g := w.heap.size + 1) (cs := #[uF8, uH9]) (by omega)
      have hb3 := below_setRow hb2 (g := w.heap.size + 1) (by omega) #[uF8, uH9]
      clear hw2 hN2 hM hA2 hC2 hZ2 hb2
      generalize World.setRow xH (w.heap.size + 1) #[uF8, uH9] = v2 at *
      simp only [Act.put, List.setIfInBounds_toArray, List.set_cons_zero, List.set_cons_succ]
      go_wp2_with fail
      go_roundw
      case rel => exact ⟨k, NA, NB, uF8, uH9, by omega, hnR, hR2, hw3, hC3, hA3, hZ3, hb3⟩
      case measure => rw [hpl.out, rowLen_blk hA3 hw3.out.a]; exact hltn
end Go.Proofs.Ytohgjihccjnheab

/- Walks: powers of forms, the reference's side. -/
import Derived.Test.YtohgjihccjnheaaD14
import Derived.Test.YtohgjihccjnheaaInv8
set_option linter.unusedVariables false
set_option linter.unusedSimpArgs false
namespace Go.Proofs.Ytohgjihccjnheaa
open Go.RowKit

/-- Powers, as both reckon them. -/
def fpw (p : Int) (ds : List Int) (k : Nat) (o b : List Int × List Int) : List Int × List Int :=
  if h : k = 0 then o else fpw p ds (k / 2) (if k % 2 = 1 then cpr p ds o b else o) (cpr p ds b b)
termination_by k
decreasing_by omega
theorem fpw_zero (p : Int) (ds : List Int) (o b : List Int × List Int) : fpw p ds 0 o b = o := by rw [fpw, dif_pos rfl]
theorem fpw_step (p : Int) (ds : List Int) (o b : List Int × List Int) {k : Nat} (h : k ≠ 0) : fpw p ds k o b = fpw p ds (k / 2) (if k % 2 = 1 then cpr p ds o b else o) (cpr p ds b b) := by rw [fpw, dif_neg h]
theorem Rdd.opp {p : Int} {ds xs ys : List Int} (h : Rdd p ds (xs, ys)) : Rdd p ds (xs, opp p xs ys) := by
  have hp2 := h.1.pr.pos
  have h1 : Rd p ds xs ys := h.1
  refine ⟨⟨h1.pr, h1.dP, h1.dl, h1.xP, rst_Po h1.pr (addp_Po (by omega) _ _ _) h1.xP h1.ne, h1.frm.1, h1.frm.2.1, rst_lt h1.pr (addp_Po (by omega) _ _ _) h1.xP h1.ne, ?_⟩, h.2⟩
  exact rst_nil_of_cg h1.pr (addp_Po (by omega) _ _ _) h1.xP h1.ne ((sqd_neg h1.pr (opp_cg h1.pr h1.xP h1.ne)).trans (cg_of_rst_nil h1.pr h1.sP h1.xP h1.ne h1.frm.2.2.2))
/-- The base and how often it is taken. -/
def pbs (p : Int) (k : Int) (xs ys : List Int) : List Int := if k < 0 then opp p xs ys else ys
theorem pbs_Rdd {p : Int} {ds xs ys : List Int} (k : Int) (h : Rdd p ds (xs, ys)) : Rdd p ds (xs, pbs p k xs ys) := by
  unfold pbs; split
  · exact h.opp
  · exact h
section
variable {P : Program} {ops : Array Oper} {rest : List Oper} {o : Oper} {a : Act} {w : World} {Q : Exit → Act → World → Prop}
theorem built_one {T s0 s1 : Nat} {z : Array Value} (h : layout P T = some (.agg z, [(0, s0), (s0, s1)])) (v0 : Value) (h0 : v0.cells.size = s0) (hz : s0 ≤ z.size) :
    P.built T [(0, v0)] = some (v0.cells.zipIdx.foldl (fun cs (x : Value × Nat) => cs.setIfInBounds (0 + x.2) x.1) z) := by
  rw [built_layout h]
  have e0 : Value.cells (.agg z) = z := rfl
  rw [e0]
  unfold Instr.fill
  simp only [List.getElem?_toArray, List.getElem?_cons_zero]
  rw [if_neg (by simp; omega)]
  unfold Instr.fill
  rfl
theorem wpl_build_fst (hw : Region.wanted o (yielded ops a.tmps) = true) (T s0 s1 : Nat) (z : Array Value) (hl : layout P T = some (.agg z, [(0, s0), (s0, s1)])) (hz : s0 ≤ z.size) (x : Operand) (hop : o.op = .build T #[(0, x)]) (v0 : Value) (hx : a.eval x = v0)
    (h0 : v0.cells.size = s0) (cs : Array Value) (hc : v0.cells.zipIdx.foldl (fun cs (x : Value × Nat) => cs.setIfInBounds (0 + x.2) x.1) z = cs) (h : wpList P ops Q rest (a.put o.dst (.agg cs)) w) : wpList P ops Q (o :: rest) a w := by
  refine wpl_wanted hw fun K hK => ?_
  have hK := hK _ _ h
  have hb : P.built T [(0, v0)] = some cs := by rw [built_one (P := P) hl v0 h0 hz, hc]
  have hr := run_build (P := P) w T #[(0, v0)] _ hb
  unfold Oper.wp execOp
  simp [hop, hx, Sem.run_bind, hr, Oper.upon]
  exact hK
end
theorem fm_fst (f : Nat → Int) : (Value.agg (u8s 64 f)).cells.zipIdx.foldl (fun cs (x : Value × Nat) => cs.setIfInBounds (0 + x.2) x.1) (u8s 128 fun _ => 0) = u8s 128 (fmF f fun _ => 0) := by
  show (u8s 64 f).zipIdx.foldl _ _ = _
  apply Array.ext_getElem?
  intro i
  rw [fold_setA, u8s_size, u8s_size]
  by_cases h : i < 64
  · rw [if_pos (by omega), Nat.sub_zero, u8s_get _ h, u8s_get _ (by omega)]; unfold fmF; rw [if_pos h]
  · rw [if_neg (by omega)]
    by_cases h2 : i < 128
    · rw [u8s_get _ h2, u8s_get _ h2]; unfold fmF; rw [if_neg h]
    · rw [Array.getElem?_eq_none (by rw [u8s_size]; omega), Array.getElem?_eq_none (by rw [u8s_size]; omega)]

set_option maxRecDepth 20000 in
set_option maxHeartbeats 2000000 in
theorem l07Unit_any  (w : World)  :
    Calls Try.prog 47 #[] w fun e w' => e = .returned (.agg (u8s 128 (fmF (cf [1]) (cf [])))) ∧ Below w.heap.size w w' := by
  have hb := below_new w (.cells (u8s 128 fun _ => 0) 31)
  have hZ := Blk.new w (u8s 128 fun _ => 0) 31
  go_enter Try.func47, Try.ntmps47
  go_wp2_with ((with_reducible refine wpl_guard ?_); first | (refine wpl_alloc_arr rfl 31 rfl _ zForm ?_))
  refine (l01One_any _).mono ?_
  rintro e u1 ⟨rfl, hn⟩
  replace hZ := hZ.keep hn
  replace hb := below_step hb hn
  clear hn
  go_wp2_with ((with_reducible refine wpl_guard ?_); first | (refine wpl_build_fst rfl 31 64 64 _ lForm (by rw [u8s_size]; decide) _ rfl (.agg (u8s 64 (cf [1]))) rfl (u8s_size _ _) _ (fm_fst _) ?_) | (refine wpl_store_arr rfl 31 _ _ rfl _ rfl _ rfl _ _ hZ sForm (by simp only [u8s_size]) (u8s_oneCell _ _) ?_))
  exact bodyPost_ret (res_s rfl rfl (hZ.setRow_same (cs := u8s 128 (fmF (cf [1]) fun _ => 0))) tForm sForm) rfl ⟨by rw [cf_void], below_setRow hb (by omega) _⟩

set_option maxRecDepth 20000 in
set_option maxHeartbeats 2000000 in
theorem specPowerOfForm_any (d f g : Nat → Int) (k p : Int) (b1 bf bk br : Bool) (T1 T2 : Nat → Bool) (RA RB : List Int) (w : World) (hR : fpw p (mkp 64 d) k.natAbs ([1], []) (mkp 64 f, pbs p k (mkp 64 f) (mkp 64 g)) = (RA, RB)) (hk : decide (-1000000000000 ≤ k ∧ k ≤ 1000000000000) = bk) (hf : By f) (hg : By g) (hT : FrmT p d (formsF [fmF f g]) 1 b1 bf br T1 T2) (hfo : FormOk p (mkp 64 d) f g ↔ bf = true) (hbr : br = true → ((mkp 64 f).length : Int) - 1 ≤ gns (mkp 64 d)) :
    Calls Try.prog 22 #[.int .i64 p, .agg (u8s 64 d), .agg (u8s 128 (fmF f g)), .int .i64 k] w fun e w' => e = .returned (.tuple #[.agg (u8s 128 (cmpF (b1 && bf && bk && br) RA RB)), .int .i64 (codeF b1 bf bk true br)]) ∧ Below w.heap.size w w' := by
  have hRH := Lib.hid hR
  have hkH := Lib.hid hk
  have hfH := Lib.hid (And.intro hf hg)
  have hTH := Lib.hid hT
  have hfoH := Lib.hid hfo
  have hbrH := Lib.hid hbr
  clear hR hf hg hT hfo hbr hk
  obtain ⟨hb, hA, hB, hZ⟩ := boxes3 w (u8s 64 d) (u8s 128 (fmF f g)) (u8s 128 fun _ => 0) 24 31 31
  go_enter Try.func22, Try.ntmps22
  go_wp2_with ((with_reducible refine wpl_guard ?_); first | (refine wpl_alloc_arr rfl 31 rfl _ zForm ?_) | (refine wpl_load_arr rfl 24 _ rfl _ rfl _ _ hA _ _ uPoly sPoly ?_))
  refine (l07Is_any d p b1 _ hTH.out.hd hTH.out.disc).mono ?_
  rintro e u1 ⟨rfl, hn⟩
  replace hA := hA.keep hn
  replace hB := hB.keep hn
  replace hZ := hZ.keep hn
  replace hb := below_step hb hn
  clear hn
  cases b1
  · go_wp2_with ((with_reducible refine wpl_guard ?_); first | (refine wpl_build_zeroS rfl 31 _ _ lForm rfl ?_) | (refine wpl_store_arr rfl 31 _ _ rfl _ rfl _ rfl _ _ hZ sForm (by simp only [u8s_size]) (u8s_oneCell _ _) ?_))
    exact bodyPost_ret (res_st (x := .int .i64 1) rfl rfl (hZ.setRow_same (cs := u8s 128 fun _ => 0)) tForm sForm rfl) rfl ⟨rfl, below_setRow hb (by omega) _⟩
  have hDi := hTH.out.disc.2 (by first | rfl | trivial)
  have kf := fun w => l07Form_any p (mkp 64 d) f g bf w (hDi.d64 hTH.out.hd) hfH.out.1 hfH.out.2 hfoH.out
  rw [← u8s_mkp] at kf
  replace kf := Lib.hid kf
  have hDH := Lib.hid hDi
  clear hDi
  go_wp2_with ((with_reducible refine wpl_guard ?_); first | (refine wpl_load_arr rfl 24 _ rfl _ rfl _ _ hA _ _ uPoly sPoly ?_) | (refine wpl_load_str rfl 31 _ rfl _ rfl _ _ hB tForm sForm ?_))
  refine (kf.out _).mono ?_
  rintro e u2 ⟨rfl, hn⟩
  replace hA := hA.keep hn
  replace hB := hB.keep hn
  replace hZ := hZ.keep hn
  replace hb := below_step hb hn
  clear hn
  cases bf
  · go_wp2_with ((with_reducible refine wpl_guard ?_); first | (refine wpl_build_zeroS rfl 31 _ _ lForm rfl ?_) | (refine wpl_store_arr rfl 31 _ _ rfl _ rfl _ rfl _ _ hZ sForm (by simp only [u8s_size]) (u8s_oneCell _ _) ?_))
    exact bodyPost_ret (res_st (x := .int .i64 1) rfl rfl (hZ.setRow_same (cs := u8s 128 fun _ => 0)) tForm sForm rfl) rfl ⟨rfl, below_setRow hb (by omega) _⟩
  go_wp2_with fail
  refine (l01In_any k (-1000000000000) 1000000000000 _ bk hkH.out).mono ?_
  rintro e u3 ⟨rfl, rfl⟩
  cases bk
  · go_wp2_with ((with_reducible refine wpl_guard ?_); first | (refine wpl_build_zeroS rfl 31 _ _ lForm rfl ?_) | (refine wpl_store_arr rfl 31 _ _ rfl _ rfl _ rfl _ _ hZ sForm (by simp only [u8s_size]) (u8s_oneCell _ _) ?_))
    exact bodyPost_ret (res_st (x := .int .i64 2) rfl rfl (hZ.setRow_same (cs := u8s 128 fun _ => 0)) tForm sForm rfl) rfl ⟨rfl, below_setRow hb (by omega) _⟩
  go_wp2_with ((with_reducible refine wpl_guard ?_); first | (refine wpl_load_arr rfl 24 _ rfl _ rfl _ _ hA _ _ uPoly sPoly ?_) | (refine wpl_load_str rfl 31 _ rfl _ rfl _ _ hB tForm sForm ?_) | (refine wpl_buildSlice_forms rfl 80 31 1 _ rfl Try.underlying80 sForm zForm [fmF f g] rfl (by decide) (by decide) rfl ?_))
  refine (l07Code_any d (formsF [fmF f g]) p 1 _ true true br true T1 T2 _ (by omega) hTH.out (Blk.newAt (by simp) _ _)).mono ?_
  rintro e u4 ⟨rfl, hn⟩
  replace hA := (hA.alloc _).keep hn
  replace hB := (hB.alloc _).keep hn
  replace hZ := (hZ.alloc _).keep hn
  replace hb := below_step hb (below_step (below_new _ _) hn)
  clear hn kf
  cases br
  · rw [codeF_red]
    go_wp2_with ((with_reducible refine wpl_guard ?_); first | (refine wpl_build_zeroS rfl 31 _ _ lForm rfl ?_) | (refine wpl_store_arr rfl 31 _ _ rfl _ rfl _ rfl _ _ hZ sForm (by simp only [u8s_size]) (u8s_oneCell _ _) ?_))
    exact bodyPost_ret (res_st (x := .int .i64 5) rfl rfl (hZ.setRow_same (cs := u8s 128 fun _ => 0)) tForm sForm rfl) rfl ⟨rfl, below_setRow hb (by omega) _⟩
  rw [codeF_ok2]
  have hrd := (hfoH.out.2 (by first | rfl | trivial)).rdd hDH.out hTH.out.hd hfH.out.1 hfH.out.2 (hbrH.out (by first | rfl | trivial))
  have hkb := of_decide_eq_true hkH.out
  have he : cmpF (true && true && true && true) RA RB = fmF (cf RA) (cf RB) := rfl
  have heH := Lib.hid he
  have hRt := hRH.out
  obtain ⟨xs, hxs⟩ : ∃ xs, mkp 64 f = xs := ⟨_, rfl⟩
  obtain ⟨ys, hys⟩ : ∃ ys, mkp 64 g = ys := ⟨_, rfl⟩
  obtain ⟨ds, hds⟩ : ∃ ds, mkp 64 d = ds := ⟨_, rfl⟩
  rw [hxs, hys, hds] at hrd hRt
  have hpb := pbs_Rdd k hrd
  have hu1 := Lib.hid (unit_Rdd hrd.1)
  obtain ⟨n, hn⟩ : ∃ n, k.natAbs = n := ⟨_, rfl⟩
  rw [hn] at hRt
  have hnb : n ≤ 1000000000000 := by omega
  replace hA := hA.cast ((u8s_mkp d).trans (by rw [hds]))
  replace hB := hB.cast (((fm_mkp2 f g).symm).trans (by rw [hxs, hys]))
  have kop := fun w => l07Opposite_any p ys xs w hrd.1.y64 hrd.1.x64 hrd.1.ne
  obtain ⟨OP, hOP⟩ : ∃ OP, opp p xs ys = OP := ⟨_, rfl⟩
  rw [hOP] at kop
  have kopH := Lib.hid kop
  clear kop hrd hxs hys hds he hfoH hbrH hDH hTH hfH hkH hRH
  clear T1 T2
  by_cases hk0 : k < 0
  · rw [show pbs p k xs ys = OP by unfold pbs; rw [if_pos hk0, hOP]] at hpb hRt
    have hpbH := Lib.hid hpb
    have hRtH := Lib.hid hRt
    have hkn : k = -(n : Int) := by omega
    subst hkn
    clear hpb hRt hOP hkb hn
    go_wp2_with ((with_reducible refine wpl_guard ?_); first | (refine wpl_load_B rfl 24 _ rfl _ rfl 5 _ _ _ hB uPoly sPoly ?_) | (refine wpl_load_A rfl 24 _ rfl _ rfl 5 _ _ _ hB uPoly sPoly ?_))
    refine (kopH.out _).mono ?_
    rintro e u5 ⟨rfl, hn⟩
    replace hA := hA.keep hn
    replace hB := hB.keep hn
    replace hZ := hZ.keep hn
    replace hb := below_step hb hn
    clear hn
    go_upto_region 10 with ((with_reducible refine wpl_guard ?_); first | (refine wpl_store_part rfl 24 _ _ rfl (w.heap.size + 1) 64 rfl 64 128 _ _ rfl _ hB sPoly (by decide) ?_))
    have qB := (hB.setRow_same (cs := u8s 128 (fun j => if 64 ≤ j ∧ j < 64 + 64 then cf OP (j - 64) else fmF (cf xs) (cf ys) j))).cast (fm_setB _ _ _)
    have qA := hA.setRow_other (g := w.heap.size + 1) (cs := u8s 128 (fun j => if 64 ≤ j ∧ j < 64 + 64 then cf OP (j - 64) else fmF (cf xs) (cf ys) j)) (by omega)
    have qZ := hZ.setRow_other (g := w.heap.size + 1) (cs := u8s 128 (fun j => if 64 ≤ j ∧ j < 64 + 64 then cf OP (j - 64) else fmF (cf xs) (cf ys) j)) (by omega)
    have qb := below_setRow hb (g := w.heap.size + 1) (by omega) (u8s 128 (fun j => if 64 ≤ j ∧ j < 64 + 64 then cf OP (j - 64) else fmF (cf xs) (cf ys) j))
    generalize World.setRow _ (w.heap.size + 1) (u8s 128 (fun j => if 64 ≤ j ∧ j < 64 + 64 then cf OP (j - 64) else fmF (cf xs) (cf ys) j)) = v9 at *
    clear hA hB hZ hb
    have hA := qA
    have hB := qB
    have hZ := qZ
    have hb := qb
    clear qA qB qZ qb
    go_wp2_with fail
    refine (l07Unit_any _).mono ?_
    rintro e u6 ⟨rfl, hn⟩
    replace hA := hA.keep hn
    replace hB := hB.keep hn
    replace hZ := hZ.keep hn
    replace hb := below_step hb hn
    clear hn
    go_wp2_with ((with_reducible refine wpl_guard ?_); first | (refine wpl_alloc_arr rfl 31 rfl _ zForm ?_) | (refine wpl_store_new rfl 31 _ _ rfl _ rfl rfl _ rfl sForm (by simp only [u8s_size]) (u8s_oneCell _ _) ?_))
    have hO := Blk.newAt (w := u6) (n := u6.heap.size) rfl (u8s 128 (fmF (cf [1]) (cf []))) 31
    have hgO := hZ.lt
    replace hA := hA.alloc (.cells (u8s 128 (fmF (cf [1]) (cf []))) 31)
    replace hB := hB.alloc (.cells (u8s 128 (fmF (cf [1]) (cf []))) 31)
    replace hZ := hZ.alloc (.cells (u8s 128 (fmF (cf [1]) (cf []))) 31)
    replace hb := below_step hb (below_new u6 (.cells (u8s 128 (fmF (cf [1]) (cf []))) 31))
    generalize hgg : u6.heap.size = gO at hO hgO
    generalize u6.alloc (.cells (u8s 128 (fmF (cf [1]) (cf []))) 31) = v0 at *
    try rw [hgg]
    clear hgg
    simp only [Act.put, List.setIfInBounds_toArray, List.set_cons_zero, List.set_cons_succ]
    go_loopw [3] (fun kk wr => ∃ (j : Nat) (o1 o2 c1 c2 : List Int), j ≤ n ∧ kk = .int .i64 j ∧ Hid (Rdd p ds (o1, o2)) ∧ Hid (Rdd p ds (c1, c2)) ∧ Hid (fpw p ds j (o1, o2) (c1, c2) = (RA, RB)) ∧ Blk wr w.heap.size (u8s 64 (cf ds)) 24 ∧ Blk wr (w.heap.size + 1) (u8s 128 (fmF (cf c1) (cf c2))) 31 ∧ Blk wr (w.heap.size + 1 + 1) (u8s 128 fun _ => 0) 31 ∧ Blk wr gO (u8s 128 (fmF (cf o1) (cf o2))) 31 ∧ Below w.heap.size w wr) (fun kk _ => (intOf kk).toNat)
    case atStart => exact ⟨n, [1], [], xs, OP, Nat.le_refl _, by first | rfl | go_num | (congr 1; omega), hu1, hpbH, hRtH, hA, hB, hZ, hO, hb⟩
    case round =>
      clear hA hB hZ hO hb hpbH hRtH hu1
      obtain ⟨j, o1, o2, c1, c2, hj, rfl, hRo, hRc, hS, hA, hB, hZ, hO, hb⟩ := hrel
      by_cases h0 : j = 0
      · subst h0
        have hoR := (fpw_zero p ds (o1, o2) (c1, c2)).symm.trans hS.out
        injection hoR with q1 q2
        subst q1 q2
        clear hS
        go_wp2_with ((with_reducible refine wpl_guard ?_); first | (refine wpl_load_str rfl 31 _ rfl _ rfl _ _ hO tForm sForm ?_) | (refine wpl_store_arr rfl 31 _ _ rfl _ rfl _ rfl _ _ hZ sForm (by simp only [u8s_size]) (u8s_oneCell _ _) ?_))
        exact bodyPost_ret (res_st (x := .int .i64 0) rfl rfl (hZ.setRow_same (cs := u8s 128 (fmF (cf o1) (cf o2)))) tForm sForm rfl) rfl ⟨by rw [heH.out]; rfl, below_setRow hb (by omega) _⟩
      · have hj1 : 0 < (j : Int) := by omega
        have hjk : (j : Int) ≤ 1000000000000 := by omega
        have hstep := hS.out
        rw [fpw_step _ _ _ _ h0] at hstep
        have hlt := Lib.hid (show j / 2 < j ∧ j / 2 ≤ n by omega)
        have kc := fun w => l07Compose_any p ds c1 c2 c1 c2 w hRc.out hRc.out
        have hRc2 := cpr_Rdd hRc.out hRc.out
        obtain ⟨e1, e2, hcc⟩ := pair_of (cpr p ds (c1, c2) (c1, c2))
        rw [hcc] at kc hRc2 hstep
        have kcH := Lib.hid kc
        have hRc3 := Lib.hid hRc2
        have ko := fun w => l07Compose_any p ds o1 o2 c1 c2 w hRo.out hRc.out
        have hRo2 := cpr_Rdd hRo.out hRc.out
        obtain ⟨m1, m2, hmm⟩ := pair_of (cpr p ds (o1, o2) (c1, c2))
        rw [hmm] at ko hRo2 hstep
        have koH := Lib.hid ko
        have hRo3 := Lib.hid hRo2
        clear kc ko hRc2 hRo2 hcc hmm h0 hS hRc
        by_cases h2 : j % 2 = 1
        · rw [if_pos h2] at hstep
          have hb1 : ((j : Int) % 2 == 1) = true := by rw [beq_iff_eq]; omega
          have hSt := Lib.hid hstep
          clear hstep h2
          go_wp2_with ((with_reducible refine wpl_guard ?_); first | (refine wpl_load_arr rfl 24 _ rfl _ rfl _ _ hA _ _ uPoly sPoly ?_) | (refine wpl_load_str rfl 31 _ rfl _ rfl _ _ hO tForm sForm ?_) | (refine wpl_load_str rfl 31 _ rfl _ rfl _ _ hB tForm sForm ?_))
          refine (koH.out _).mono ?_
          rintro e u7 ⟨rfl, hn⟩
          replace hA := hA.keep hn
          replace hB := hB.keep hn
          replace hZ := hZ.keep hn
          replace hO := hO.keep hn
          replace hb := below_step hb hn
          clear hn
          go_upto_region 16 with ((with_reducible refine wpl_guard ?_); first | (refine wpl_store_arr rfl 31 _ _ rfl _ rfl _ rfl _ _ hO sForm (by simp only [u8s_size]) (u8s_oneCell _ _) ?_))
          have qhO := hO.setRow_same (cs := u8s 128 (fmF (cf m1) (cf m2)))
          have qhA := hA.setRow_other (g := gO) (cs := u8s 128 (fmF (cf m1) (cf m2))) (by omega)
          have qhB := hB.setRow_other (g := gO) (cs := u8s 128 (fmF (cf m1) (cf m2))) (by omega)
          have qhZ := hZ.setRow_other (g := gO) (cs := u8s 128 (fmF (cf m1) (cf m2))) (by omega)
          have qhb := below_setRow hb (g := gO) (by omega) (u8s 128 (fmF (cf m1) (cf m2)))
          generalize World.setRow _ (gO) (u8s 128 (fmF (cf m1) (cf m2))) = v1 at *
          clear hb hA hB hZ hO
          have hA := qhA
          clear qhA
          have hB := qhB
          clear qhB
          have hZ := qhZ
          clear qhZ
          have hO := qhO
          clear qhO
          have hb := qhb
          clear qhb
          go_wp2_with ((with_reducible refine wpl_guard ?_); first | (refine wpl_load_arr rfl 24 _ rfl _ rfl _ _ hA _ _ uPoly sPoly ?_) | (refine wpl_load_str rfl 31 _ rfl _ rfl _ _ hB tForm sForm ?_))
          refine (kcH.out _).mono ?_
          rintro e u8 ⟨rfl, hn⟩
          replace hA := hA.keep hn
          replace hB := hB.keep hn
          replace hZ := hZ.keep hn
          replace hO := hO.keep hn
          replace hb := below_step hb hn
          clear hn
          go_upto_region 13 with ((with_reducible refine wpl_guard ?_); first | (refine wpl_store_arr rfl 31 _ _ rfl _ rfl _ rfl _ _ hB sForm (by simp only [u8s_size]) (u8s_oneCell _ _) ?_))
          have qhB := hB.setRow_same (cs := u8s 128 (fmF (cf e1) (cf e2)))
          have qhA := hA.setRow_other (g := w.heap.size + 1) (cs := u8s 128 (fmF (cf e1) (cf e2))) (by omega)
          have qhZ := hZ.setRow_other (g := w.heap.size + 1) (cs := u8s 128 (fmF (cf e1) (cf e2))) (by omega)
          have qhO := hO.setRow_other (g := w.heap.size + 1) (cs := u8s 128 (fmF (cf e1) (cf e2))) (by omega)
          have qhb := below_setRow hb (g := w.heap.size + 1) (by omega) (u8s 128 (fmF (cf e1) (cf e2)))
          generalize World.setRow _ (w.heap.size + 1) (u8s 128 (fmF (cf e1) (cf e2))) = v2 at *
          clear hb hA hB hZ hO
          have hA := qhA
          clear qhA
          have hB := qhB
          clear qhB
          have hZ := qhZ
          clear qhZ
          have hO := qhO
          clear qhO
          have hb := qhb
          clear qhb
          simp only [Act.put, List.setIfInBounds_toArray, List.set_cons_zero, List.set_cons_succ]
          go_wp2_with fail
          go_roundw
          case rel => exact ⟨j / 2, m1, m2, e1, e2, hlt.out.2, by first | go_num | (congr 1; omega) | (congr 1; exact (Int.natCast_ediv j 2).symm), hRo3, hRc3, hSt, hA, hB, hZ, hO, hb⟩
          case measure => have h9 := hlt.out; simp only [intOf]; omega
        · rw [if_neg h2] at hstep
          have hb1 : ((j : Int) % 2 == 1) = false := by rw [beq_eq_false_iff_ne]; omega
          have hSt := Lib.hid hstep
          clear hstep h2
          go_wp2_with ((with_reducible refine wpl_guard ?_); first | (refine wpl_load_arr rfl 24 _ rfl _ rfl _ _ hA _ _ uPoly sPoly ?_) | (refine wpl_load_str rfl 31 _ rfl _ rfl _ _ hB tForm sForm ?_))
          refine (kcH.out _).mono ?_
          rintro e u9 ⟨rfl, hn⟩
          replace hA := hA.keep hn
          replace hB := hB.keep hn
          replace hZ := hZ.keep hn
          replace hO := hO.keep hn
          replace hb := below_step hb hn
          clear hn
          go_upto_region 13 with ((with_reducible refine wpl_guard ?_); first | (refine wpl_store_arr rfl 31 _ _ rfl _ rfl _ rfl _ _ hB sForm (by simp only [u8s_size]) (u8s_oneCell _ _) ?_))
          have qhB := hB.setRow_same (cs := u8s 128 (fmF (cf e1) (cf e2)))
          have qhA := hA.setRow_other (g := w.heap.size + 1) (cs := u8s 128 (fmF (cf e1) (cf e2))) (by omega)
          have qhZ := hZ.setRow_other (g := w.heap.size + 1) (cs := u8s 128 (fmF (cf e1) (cf e2))) (by omega)
          have qhO := hO.setRow_other (g := w.heap.size + 1) (cs := u8s 128 (fmF (cf e1) (cf e2))) (by omega)
          have qhb := below_setRow hb (g := w.heap.size + 1) (by omega) (u8s 128 (fmF (cf e1) (cf e2)))
          generalize World.setRow _ (w.heap.size + 1) (u8s 128 (fmF (cf e1) (cf e2))) = v2 at *
          clear hb hA hB hZ hO
          have hA := qhA
          clear qhA
          have hB := qhB
          clear qhB
          have hZ := qhZ
          clear qhZ
          have hO := qhO
          clear qhO
          have hb := qhb
          clear qhb
          simp only [Act.put, List.setIfInBounds_toArray, List.set_cons_zero, List.set_cons_succ]
          go_wp2_with fail
          go_roundw
          case rel => exact ⟨j / 2, o1, o2, e1, e2, hlt.out.2, by first | go_num | (congr 1; omega) | (congr 1; exact (Int.natCast_ediv j 2).symm), hRo, hRc3, hSt, hA, hB, hZ, hO, hb⟩
          case measure => have h9 := hlt.out; simp only [intOf]; omega
  · rw [show pbs p k xs ys = ys by unfold pbs; rw [if_neg hk0]] at hpb hRt
    have hpbH := Lib.hid hpb
    have hRtH := Lib.hid hRt
    have hkn : k = (n : Int) := by omega
    subst hkn
    clear hpb hRt hOP hkb hn
    go_wp2_with fail
    refine (l07Unit_any _).mono ?_
    rintro e u5 ⟨rfl, hn⟩
    replace hA := hA.keep hn
    replace hB := hB.keep hn
    replace hZ := hZ.keep hn
    replace hb := below_step hb hn
    clear hn
    go_wp2_with ((with_reducible refine wpl_guard ?_); first | (refine wpl_alloc_arr rfl 31 rfl _ zForm ?_) | (refine wpl_store_new rfl 31 _ _ rfl _ rfl rfl _ rfl sForm (by simp only [u8s_size]) (u8s_oneCell _ _) ?_))
    have hO := Blk.newAt (w := u5) (n := u5.heap.size) rfl (u8s 128 (fmF (cf [1]) (cf []))) 31
    have hgO := hZ.lt
    replace hA := hA.alloc (.cells (u8s 128 (fmF (cf [1]) (cf []))) 31)
    replace hB := hB.alloc (.cells (u8s 128 (fmF (cf [1]) (cf []))) 31)
    replace hZ := hZ.alloc (.cells (u8s 128 (fmF (cf [1]) (cf []))) 31)
    replace hb := below_step hb (below_new u5 (.cells (u8s 128 (fmF (cf [1]) (cf []))) 31))
    generalize hgg : u5.heap.size = gO at hO hgO
    generalize u5.alloc (.cells (u8s 128 (fmF (cf [1]) (cf []))) 31) = v0 at *
    try rw [hgg]
    clear hgg
    simp only [Act.put, List.setIfInBounds_toArray, List.set_cons_zero, List.set_cons_succ]
    go_loopw [3] (fun kk wr => ∃ (j : Nat) (o1 o2 c1 c2 : List Int), j ≤ n ∧ kk = .int .i64 j ∧ Hid (Rdd p ds (o1, o2)) ∧ Hid (Rdd p ds (c1, c2)) ∧ Hid (fpw p ds j (o1, o2) (c1, c2) = (RA, RB)) ∧ Blk wr w.heap.size (u8s 64 (cf ds)) 24 ∧ Blk wr (w.heap.size + 1) (u8s 128 (fmF (cf c1) (cf c2))) 31 ∧ Blk wr (w.heap.size + 1 + 1) (u8s 128 fun _ => 0) 31 ∧ Blk wr gO (u8s 128 (fmF (cf o1) (cf o2))) 31 ∧ Below w.heap.size w wr) (fun kk _ => (intOf kk).toNat)
    case atStart => exact ⟨n, [1], [], xs, ys, Nat.le_refl _, by first | rfl | go_num | (congr 1; omega), hu1, hpbH, hRtH, hA, hB, hZ, hO, hb⟩
    case round =>
      clear hA hB hZ hO hb hpbH hRtH hu1
      obtain ⟨j, o1, o2, c1, c2, hj, rfl, hRo, hRc, hS, hA, hB, hZ, hO, hb⟩ := hrel
      by_cases h0 : j = 0
      · subst h0
        have hoR := (fpw_zero p ds (o1, o2) (c1, c2)).symm.trans hS.out
        injection hoR with q1 q2
        subst q1 q2
        clear hS
        go_wp2_with ((with_reducible refine wpl_guard ?_); first | (refine wpl_load_str rfl 31 _ rfl _ rfl _ _ hO tForm sForm ?_) | (refine wpl_store_arr rfl 31 _ _ rfl _ rfl _ rfl _ _ hZ sForm (by simp only [u8s_size]) (u8s_oneCell _ _) ?_))
        exact bodyPost_ret (res_st (x := .int .i64 0) rfl rfl (hZ.setRow_same (cs := u8s 128 (fmF (cf o1) (cf o2)))) tForm sForm rfl) rfl ⟨by rw [heH.out]; rfl, below_setRow hb (by omega) _⟩
      · have hj1 : 0 < (j : Int) := by omega
        have hjk : (j : Int) ≤ 1000000000000 := by omega
        have hstep := hS.out
        rw [fpw_step _ _ _ _ h0] at hstep
        have hlt := Lib.hid (show j / 2 < j ∧ j / 2 ≤ n by omega)
        have kc := fun w => l07Compose_any p ds c1 c2 c1 c2 w hRc.out hRc.out
        have hRc2 := cpr_Rdd hRc.out hRc.out
        obtain ⟨e1, e2, hcc⟩ := pair_of (cpr p ds (c1, c2) (c1, c2))
        rw [hcc] at kc hRc2 hstep
        have kcH := Lib.hid kc
        have hRc3 := Lib.hid hRc2
        have ko := fun w => l07Compose_any p ds o1 o2 c1 c2 w hRo.out hRc.out
        have hRo2 := cpr_Rdd hRo.out hRc.out
        obtain ⟨m1, m2, hmm⟩ := pair_of (cpr p ds (o1, o2) (c1, c2))
        rw [hmm] at ko hRo2 hstep
        have koH := Lib.hid ko
        have hRo3 := Lib.hid hRo2
        clear kc ko hRc2 hRo2 hcc hmm h0 hS hRc
        by_cases h2 : j % 2 = 1
        · rw [if_pos h2] at hstep
          have hb1 : ((j : Int) % 2 == 1) = true := by rw [beq_iff_eq]; omega
          have hSt := Lib.hid hstep
          clear hstep h2
          go_wp2_with ((with_reducible refine wpl_guard ?_); first | (refine wpl_load_arr rfl 24 _ rfl _ rfl _ _ hA _ _ uPoly sPoly ?_) | (refine wpl_load_str rfl 31 _ rfl _ rfl _ _ hO tForm sForm ?_) | (refine wpl_load_str rfl 31 _ rfl _ rfl _ _ hB tForm sForm ?_))
          refine (koH.out _).mono ?_
          rintro e u6 ⟨rfl, hn⟩
          replace hA := hA.keep hn
          replace hB := hB.keep hn
          replace hZ := hZ.keep hn
          replace hO := hO.keep hn
          replace hb := below_step hb hn
          clear hn
          go_upto_region 16 with ((with_reducible refine wpl_guard ?_); first | (refine wpl_store_arr rfl 31 _ _ rfl _ rfl _ rfl _ _ hO sForm (by simp only [u8s_size]) (u8s_oneCell _ _) ?_))
          have qhO := hO.setRow_same (cs := u8s 128 (fmF (cf m1) (cf m2)))
          have qhA := hA.setRow_other (g := gO) (cs := u8s 128 (fmF (cf m1) (cf m2))) (by omega)
          have qhB := hB.setRow_other (g := gO) (cs := u8s 128 (fmF (cf m1) (cf m2))) (by omega)
          have qhZ := hZ.setRow_other (g := gO) (cs := u8s 128 (fmF (cf m1) (cf m2))) (by omega)
          have qhb := below_setRow hb (g := gO) (by omega) (u8s 128 (fmF (cf m1) (cf m2)))
          generalize World.setRow _ (gO) (u8s 128 (fmF (cf m1) (cf m2))) = v1 at *
          clear hb hA hB hZ hO
          have hA := qhA
          clear qhA
          have hB := qhB
          clear qhB
          have hZ := qhZ
          clear qhZ
          have hO := qhO
          clear qhO
          have hb := qhb
          clear qhb
          go_wp2_with ((with_reducible refine wpl_guard ?_); first | (refine wpl_load_arr rfl 24 _ rfl _ rfl _ _ hA _ _ uPoly sPoly ?_) | (refine wpl_load_str rfl 31 _ rfl _ rfl _ _ hB tForm sForm ?_))
          refine (kcH.out _).mono ?_
          rintro e u7 ⟨rfl, hn⟩
          replace hA := hA.keep hn
          replace hB := hB.keep hn
          replace hZ := hZ.keep hn
          replace hO := hO.keep hn
          replace hb := below_step hb hn
          clear hn
          go_upto_region 13 with ((with_reducible refine wpl_guard ?_); first | (refine wpl_store_arr rfl 31 _ _ rfl _ rfl _ rfl _ _ hB sForm (by simp only [u8s_size]) (u8s_oneCell _ _) ?_))
          have qhB := hB.setRow_same (cs := u8s 128 (fmF (cf e1) (cf e2)))
          have qhA := hA.setRow_other (g := w.heap.size + 1) (cs := u8s 128 (fmF (cf e1) (cf e2))) (by omega)
          have qhZ := hZ.setRow_other (g := w.heap.size + 1) (cs := u8s 128 (fmF (cf e1) (cf e2))) (by omega)
          have qhO := hO.setRow_other (g := w.heap.size + 1) (cs := u8s 128 (fmF (cf e1) (cf e2))) (by omega)
          have qhb := below_setRow hb (g := w.heap.size + 1) (by omega) (u8s 128 (fmF (cf e1) (cf e2)))
          generalize World.setRow _ (w.heap.size + 1) (u8s 128 (fmF (cf e1) (cf e2))) = v2 at *
          clear hb hA hB hZ hO
          have hA := qhA
          clear qhA
          have hB := qhB
          clear qhB
          have hZ := qhZ
          clear qhZ
          have hO := qhO
          clear qhO
          have hb := qhb
          clear qhb
          simp only [Act.put, List.setIfInBounds_toArray, List.set_cons_zero, List.set_cons_succ]
          go_wp2_with fail
          go_roundw
          case rel => exact ⟨j / 2, m1, m2, e1, e2, hlt.out.2, by first | go_num | (congr 1; omega) | (congr 1; exact (Int.natCast_ediv j 2).symm), hRo3, hRc3, hSt, hA, hB, hZ, hO, hb⟩
          case measure => have h9 := hlt.out; simp only [intOf]; omega
        · rw [if_neg h2] at hstep
          have hb1 : ((j : Int) % 2 == 1) = false := by rw [beq_eq_false_iff_ne]; omega
          have hSt := Lib.hid hstep
          clear hstep h2
          go_wp2_with ((with_reducible refine wpl_guard ?_); first | (refine wpl_load_arr rfl 24 _ rfl _ rfl _ _ hA _ _ uPoly sPoly ?_) | (refine wpl_load_str rfl 31 _ rfl _ rfl _ _ hB tForm sForm ?_))
          refine (kcH.out _).mono ?_
          rintro e u8 ⟨rfl, hn⟩
          replace hA := hA.keep hn
          replace hB := hB.keep hn
          replace hZ := hZ.keep hn
          replace hO := hO.keep hn
          replace hb := below_step hb hn
          clear hn
          go_upto_region 13 with ((with_reducible refine wpl_guard ?_); first | (refine wpl_store_arr rfl 31 _ _ rfl _ rfl _ rfl _ _ hB sForm (by simp only [u8s_size]) (u8s_oneCell _ _) ?_))
          have qhB := hB.setRow_same (cs := u8s 128 (fmF (cf e1) (cf e2)))
          have qhA := hA.setRow_other (g := w.heap.size + 1) (cs := u8s 128 (fmF (cf e1) (cf e2))) (by omega)
          have qhZ := hZ.setRow_other (g := w.heap.size + 1) (cs := u8s 128 (fmF (cf e1) (cf e2))) (by omega)
          have qhO := hO.setRow_other (g := w.heap.size + 1) (cs := u8s 128 (fmF (cf e1) (cf e2))) (by omega)
          have qhb := below_setRow hb (g := w.heap.size + 1) (by omega) (u8s 128 (fmF (cf e1) (cf e2)))
          generalize World.setRow _ (w.heap.size + 1) (u8s 128 (fmF (cf e1) (cf e2))) = v2 at *
          clear hb hA hB hZ hO
          have hA := qhA
          clear qhA
          have hB := qhB
          clear qhB
          have hZ := qhZ
          clear qhZ
          have hO := qhO
          clear qhO
          have hb := qhb
          clear qhb
          simp only [Act.put, List.setIfInBounds_toArray, List.set_cons_zero, List.set_cons_succ]
          go_wp2_with fail
          go_roundw
          case rel => exact ⟨j / 2, o1, o2, e1, e2, hlt.out.2, by first | go_num | (congr 1; omega) | (congr 1; exact (Int.natCast_ediv j 2).symm), hRo, hRc3, hSt, hA, hB, hZ, hO, hb⟩
          case measure => have h9 := hlt.out; simp only [intOf]; omega
end Go.Proofs.Ytohgjihccjnheaa

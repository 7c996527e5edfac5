/- Walks: powers of forms, the program's side. -/
import Derived.Test.YtohgjihccjnheaaD15
set_option linter.unusedVariables false
set_option linter.unusedSimpArgs false
namespace Go.Proofs.Ytohgjihccjnheaa
open Go.RowKit

section
variable {P : Program} {Q : Exit → Act → World → Prop}
theorem wpv_buildSlice_forms {o : Oper} {a : Act} {w : World} (t e n : Nat) (parts : List (Nat × Operand)) (hop : o.op = .buildSlice t n parts.toArray)
    (ht : P.underlying t = some (.slice e)) (hs : (P.info? e).map (·.size) = some 128) (hz : (P.info? e).bind (·.zero) = some (.agg (u8s 128 fun _ => 0)))
    (fs : List (Nat → Int)) (hn : fs.length = n) (hn0 : 0 < n) (hn1 : n ≤ 1000)
    (hp : (parts.map fun (x : Nat × Operand) => (x.1, a.eval x.2)) = fs.zipIdx.map fun x => (x.2, Value.agg (u8s 128 x.1))) :
    WpV P o a w (fun v w' => ∃ g, v = .slice (some ⟨g, 0, none⟩) n n ∧ Blk w' g (u8s (n * 128) (formsF fs)) e) Q := by
  obtain ⟨inf, hinf, hsz⟩ := Option.map_eq_some_iff.1 hs
  obtain ⟨inf', hinf', hz⟩ := Option.bind_eq_some_iff.1 hz
  obtain rfl : inf = inf' := by rw [hinf] at hinf'; exact Option.some.inj hinf'
  have hfill := fill_forms (n * 128) fs 0 (fun q => (u8s 128 fun _ => 0)[q % 128]!) (by omega)
  have hzero : (Array.range (n * 128)).map (fun x => (u8s 128 fun _ => 0)[x % (u8s 128 fun _ => 0).size]!) = arr (n * 128) (fun q => (u8s 128 fun _ => 0)[q % 128]!) := by
    apply Array.ext_getElem?
    intro i
    rw [arr_get, Array.getElem?_map, u8s_size]
    by_cases hi : i < n * 128
    · rw [if_pos hi, Array.getElem?_range, if_pos hi]; rfl
    · rw [if_neg hi, Array.getElem?_range, if_neg hi]; rfl
  unfold WpV Oper.wp execOp
  simp only [hop, Instr.buildSlice, Sem.run_bind, run_underlying ht w, Result.andThen_ok, sizeOf, typeInfo, run_program, hinf, Sem.run_pure, hsz, zeroValue, List.map_toArray, hp, Value.cells]
  rw [if_neg (by simp only [Nat.reducePow]; omega), if_neg (by omega)]
  simp only [Sem.run_bind, run_program, Result.andThen_ok, hinf, Sem.run_pure, hz, hzero, hfill]
  simp only [Nat.zero_mul, Nat.zero_le, Nat.zero_add, true_and, Nat.sub_zero]
  have e1 : arr (n * 128) (fun q => if q < fs.length * 128 then Value.int .u8 (formsF fs q) else (u8s 128 fun _ => 0)[q % 128]!) = u8s (n * 128) (formsF fs) := by
    apply arr_ext; intro i hi; rw [if_pos (by omega)]
  rw [e1]
  simp [newRow, newObj, Oper.upon]
  exact ⟨_, rfl, ⟨_, rfl, Blk.new w _ e⟩, below_new _ _⟩
end
theorem row_fst (v : Value) (hv : v.cells = #[v]) (y z : Value) : v.cells.zipIdx.foldl (fun cs (x : Value × Nat) => cs.setIfInBounds (0 + x.2) x.1) #[y, z] = #[v, z] := by
  rw [hv]; rfl

set_option maxRecDepth 20000 in
set_option maxHeartbeats 2000000 in
theorem unitForm_any  (w : World)  :
    Calls Try.prog 49 #[] w fun e w' => ∃ va vb, e = .returned (.agg #[va, vb]) ∧ IsRow w' va [1] ∧ IsRow w' vb [] ∧ Below w.heap.size w w' := by
  have hb := below_new w (.cells #[.slice none 0 0, .slice none 0 0] 55)
  have hZ := Blk.new w #[.slice none 0 0, .slice none 0 0] 55
  go_enter Try.func49, Try.ntmps49
  go_upto_region 1 with ((with_reducible refine wpl_guard ?_); first | (refine wpl_alloc_arr rfl 55 rfl _ zform ?_))
  go_wp2_with ((with_reducible refine wpl_guard ?_); first | (refine wpl_build_fst rfl 55 1 1 _ lform (by decide) _ rfl _ rfl rfl _ rfl ?_) | fail)
  exact bodyPost_ret (res_s rfl rfl ((Blk.new w #[Value.slice (some ⟨w.heap.size + 1, 0, none⟩) 1 1, Value.slice none 0 0] 55).alloc _) tform sform) rfl ⟨_, _, rfl, IsRow_one _ _ _ ((Blk.newAt (by simp) #[Value.int IntKind.i64 1] 2).cell 0), IsRow_nil _, (below_new _ _).alloc (by simp) _⟩

theorem codeF_rng (br : Bool) : codeF true true false true br = 2 := rfl

set_option maxRecDepth 20000 in
set_option maxHeartbeats 2000000 in
theorem implPowerOfForm_any (d f g : Nat → Int) (k p : Int) (b1 bf bk br : Bool) (T1 T2 : Nat → Bool) (RA RB : List Int) (w : World) (hR : fpw p (mkp 64 d) k.natAbs ([1], []) (mkp 64 f, pbs p k (mkp 64 f) (mkp 64 g)) = (RA, RB)) (hk : decide (-1000000000000 ≤ k ∧ k ≤ 1000000000000) = bk) (hf : By f) (hg : By g) (hT : FrmT p d (formsF [fmF f g]) 1 b1 bf br T1 T2) (hfo : FormOk p (mkp 64 d) f g ↔ bf = true) (hbr : br = true → ((mkp 64 f).length : Int) - 1 ≤ gns (mkp 64 d)) :
    Calls Try.prog 23 #[.int .i64 p, .agg (u8s 64 d), .agg (u8s 128 (fmF f g)), .int .i64 k] w fun e w' => e = .returned (.tuple #[.agg (u8s 128 (cmpF (b1 && bf && bk && br) RA RB)), .int .i64 (codeF b1 bf bk true br)]) ∧ Below w.heap.size w w' := by
  have hRH := Lib.hid hR
  have hkH := Lib.hid hk
  have hfH := Lib.hid (And.intro hf hg)
  have hTH := Lib.hid hT
  have hfoH := Lib.hid hfo
  have hbrH := Lib.hid hbr
  clear hR hf hg hT hfo hbr hk
  obtain ⟨hb, hA, hB, hZ⟩ := boxes3 w (u8s 64 d) (u8s 128 (fmF f g)) (u8s 128 fun _ => 0) 24 31 31
  have hb0 := hb
  go_enter Try.func23, Try.ntmps23
  go_upto_region 1 with ((with_reducible refine wpl_guard ?_); first | (refine wpl_alloc_arr rfl 31 rfl _ zForm ?_))
  try simp only [size_alloc]
  go_upto_region 1 with (fail)
  refine gen_guard (w := _) (by kernel_rfl) (by kernel_rfl) (by kernel_rfl)
      (fun i => ([fun zv _ => zv = .int .i64 p, fun zv _ => zv = .agg (u8s 64 d), fun zv _ => zv = .int .i64 k, fun zv _ => zv = .bool bk, fun zv _ => zv = .agg (u8s 128 (fmF f g)), fun v w => ∃ gg, v = .slice (some ⟨gg, 0, none⟩) 1 1 ∧ Blk w gg (u8s (1 * 128) (formsF [fmF f g])) 31, fun zv _ => zv = .int .i64 (codeF b1 bf bk true br), fun zv _ => zv = .int .i64 (codeF b1 bf bk true br)] : List (Value → World → Prop)).getD i (fun _ _ => True))
      (fun w' => Blk w' (w.heap.size) (u8s 64 d) 24 ∧ Blk w' (w.heap.size + 1) (u8s 128 (fmF f g)) 31 ∧ True) ⟨hA.drew, hB.drew, trivial⟩ (fun w1 w2 h hb => ⟨h.1.keep hb, h.2.1.keep hb, trivial⟩) ?_ ?_ ?_
  · intro i v w1 w2 h hb
    rcases i with _|_|_|_|_|_|_|_|i
    · exact h
    · exact h
    · exact h
    · exact h
    · exact h
    · obtain ⟨gg, e, h1⟩ := h; exact ⟨gg, e, h1.keep hb⟩
    · exact h
    · exact h
    · exact h
  · intro i o ho a w2 hBl hSx hrd hpar
    rcases i with _|_|_|_|_|_|_|_|i
    · obtain rfl := Option.some.inj ho
      refine .inl ⟨rfl, ?_⟩
      have e0 : a.eval (.tmp 0) = .int .i64 p := hpar 0 _ (by kernel_rfl) (by kernel_rfl)
      exact wpv_of (wp_move _ _ rfl e0) (fun _ _ => rfl)
    · obtain rfl := Option.some.inj ho
      refine .inl ⟨rfl, ?_⟩
      exact wpv_of (wp_loadB 24 _ rfl _ (hpar 5 (.pointer (some ⟨w.heap.size, 0, none⟩)) (by kernel_rfl) (by kernel_rfl)) _ _ hSx.1 _ _ uPoly sPoly) (fun _ _ => rfl)
    · obtain rfl := Option.some.inj ho
      refine .inl ⟨rfl, ?_⟩
      have e3 : a.eval (.tmp 3) = .int .i64 k := hpar 3 _ (by kernel_rfl) (by kernel_rfl)
      exact wpv_of (wp_move _ _ rfl e3) (fun _ _ => rfl)
    · obtain rfl := Option.some.inj ho
      refine .inl ⟨rfl, ?_⟩
      have e16 : a.eval (.tmp 16) = .int .i64 k := hrd 2 _ 16 rfl rfl (by kernel_rfl) (by kernel_rfl)
      exact wpv_call 48 [.tmp 16, .const (.int .i64 (-1000000000000)), .const (.int .i64 1000000000000)] _ rfl [.int .i64 k, .int .i64 (-1000000000000), .int .i64 1000000000000] (by simp only [List.map_cons, List.map_nil, e16, eval_const, eval_const]) Try.call48 ((within_any k (-1000000000000) 1000000000000 w2 bk hkH.out).mono fun _ _ ⟨h1, h2⟩ => ⟨_, h1, rfl, h2 ▸ Below.refl _ _⟩)
    · obtain rfl := Option.some.inj ho
      refine .inl ⟨rfl, ?_⟩
      exact wpv_of (wp_loadS 31 _ rfl _ (hpar 6 (.pointer (some ⟨w.heap.size + 1, 0, none⟩)) (by kernel_rfl) (by kernel_rfl)) _ _ hSx.2.1 tForm sForm) (fun _ _ => rfl)
    · obtain rfl := Option.some.inj ho
      refine .inl ⟨rfl, ?_⟩
      have e18 : a.eval (.tmp 18) = .agg (u8s 128 (fmF f g)) := hrd 4 _ 18 rfl rfl (by kernel_rfl) (by kernel_rfl)
      exact wpv_buildSlice_forms 80 31 1 _ rfl Try.underlying80 sForm zForm [fmF f g] rfl (by decide) (by decide) (by simp only [List.map_cons, List.map_nil, e18]; rfl)
    · obtain rfl := Option.some.inj ho
      refine .inl ⟨rfl, ?_⟩
      have e14 : a.eval (.tmp 14) = .int .i64 p := hrd 0 _ 14 rfl rfl (by kernel_rfl) (by kernel_rfl)
      have e15 : a.eval (.tmp 15) = .agg (u8s 64 d) := hrd 1 _ 15 rfl rfl (by kernel_rfl) (by kernel_rfl)
      have e17 : a.eval (.tmp 17) = .bool bk := hrd 3 _ 17 rfl rfl (by kernel_rfl) (by kernel_rfl)
      have h19 : (fun v w => ∃ gg, v = .slice (some ⟨gg, 0, none⟩) 1 1 ∧ Blk w gg (u8s (1 * 128) (formsF [fmF f g])) 31) (a.eval (.tmp 19)) w2 := hrd 5 _ 19 rfl rfl (by kernel_rfl) (by kernel_rfl)
      generalize e19 : a.eval (.tmp 19) = v19 at h19
      exact wpv_call 38 [.tmp 14, .tmp 15, .tmp 17, .const (.bool true), .tmp 19] _ rfl [.int .i64 p, .agg (u8s 64 d), .bool bk, .bool true, v19] (by simp only [List.map_cons, List.map_nil, e14, e15, e17, eval_const, e19]) Try.call38 (by obtain ⟨gg, rfl, hg⟩ := h19; exact (formCode_any d (formsF [fmF f g]) p 1 gg 31 b1 bf br bk true T1 T2 w2 (by omega) hTH.out hg).mono fun _ _ ⟨h1, h2⟩ => ⟨_, h1, rfl, h2⟩)
    · obtain rfl := Option.some.inj ho
      refine .inl ⟨rfl, ?_⟩
      have e20 : a.eval (.tmp 20) = .int .i64 (codeF b1 bf bk true br) := hrd 6 _ 20 rfl rfl (by kernel_rfl) (by kernel_rfl)
      exact wpv_of (wp_assign _ _ rfl e20) (fun _ _ => rfl)
    · simp at ho
  intro vals xC hBx hSx hc0
  have e0 : vals 0 = .int .i64 p := hc0 0 (by simp)
  have e1 : vals 1 = .agg (u8s 64 d) := hc0 1 (by simp)
  have e2 : vals 2 = .int .i64 k := hc0 2 (by simp)
  have e3 : vals 3 = .bool bk := hc0 3 (by simp)
  have e4 : vals 4 = .agg (u8s 128 (fmF f g)) := hc0 4 (by simp)
  have cC5 : (fun v w => ∃ gg, v = .slice (some ⟨gg, 0, none⟩) 1 1 ∧ Blk w gg (u8s (1 * 128) (formsF [fmF f g])) 31) (vals 5) xC := hc0 5 (by simp)
  generalize ev5 : vals 5 = uC5 at cC5
  have e6 : vals 6 = .int .i64 (codeF b1 bf bk true br) := hc0 6 (by simp)
  have e7 : vals 7 = .int .i64 (codeF b1 bf bk true br) := hc0 7 (by simp)
  simp only [List.length_cons, List.length_nil, Nat.zero_add, Nat.reduceAdd, List.replicate, putAll, if_true, Act.put, List.setIfInBounds_toArray, List.set_cons_zero, List.set_cons_succ, e0, e1, e2, e3, e4, ev5, e6, e7]
  replace hZ := hZ.keep hBx
  replace hA := hSx.1
  replace hB := hSx.2.1
  replace hb := below_step hb hBx
  clear hc0 hSx e0 e1 e2 e3 e4 ev5 e6 e7
  clear cC5 hb0 hBx
  cases b1
  · rw [codeF_no1]
    go_wp2_with ((with_reducible refine wpl_guard ?_); first | (refine wpl_build_zeroS rfl 31 _ _ lForm rfl ?_) | (refine wpl_store_arr rfl 31 _ _ rfl _ rfl _ rfl _ _ hZ sForm (by simp only [u8s_size]) (u8s_oneCell _ _) ?_))
    exact bodyPost_ret (res_st (x := .int .i64 1) rfl rfl (hZ.setRow_same (cs := u8s 128 fun _ => 0)) tForm sForm rfl) rfl ⟨rfl, below_setRow hb (by omega) _⟩
  cases bf
  · rw [codeF_no2]
    go_wp2_with ((with_reducible refine wpl_guard ?_); first | (refine wpl_build_zeroS rfl 31 _ _ lForm rfl ?_) | (refine wpl_store_arr rfl 31 _ _ rfl _ rfl _ rfl _ _ hZ sForm (by simp only [u8s_size]) (u8s_oneCell _ _) ?_))
    exact bodyPost_ret (res_st (x := .int .i64 1) rfl rfl (hZ.setRow_same (cs := u8s 128 fun _ => 0)) tForm sForm rfl) rfl ⟨rfl, below_setRow hb (by omega) _⟩
  cases bk
  · rw [codeF_rng]
    go_wp2_with ((with_reducible refine wpl_guard ?_); first | (refine wpl_build_zeroS rfl 31 _ _ lForm rfl ?_) | (refine wpl_store_arr rfl 31 _ _ rfl _ rfl _ rfl _ _ hZ sForm (by simp only [u8s_size]) (u8s_oneCell _ _) ?_))
    exact bodyPost_ret (res_st (x := .int .i64 2) rfl rfl (hZ.setRow_same (cs := u8s 128 fun _ => 0)) tForm sForm rfl) rfl ⟨rfl, below_setRow hb (by omega) _⟩
  cases br
  · rw [codeF_red]
    go_wp2_with ((with_reducible refine wpl_guard ?_); first | (refine wpl_build_zeroS rfl 31 _ _ lForm rfl ?_) | (refine wpl_store_arr rfl 31 _ _ rfl _ rfl _ rfl _ _ hZ sForm (by simp only [u8s_size]) (u8s_oneCell _ _) ?_))
    exact bodyPost_ret (res_st (x := .int .i64 5) rfl rfl (hZ.setRow_same (cs := u8s 128 fun _ => 0)) tForm sForm rfl) rfl ⟨rfl, below_setRow hb (by omega) _⟩
  rw [codeF_ok2]
  have hDi := hTH.out.disc.2 (by first | rfl | trivial)
  have hrd := (hfoH.out.2 (by first | rfl | trivial)).rdd hDi hTH.out.hd hfH.out.1 hfH.out.2 (hbrH.out (by first | rfl | trivial))
  have hkb := of_decide_eq_true hkH.out
  have he : cmpF (true && true && true && true) RA RB = fmF (cf RA) (cf RB) := rfl
  have heH := Lib.hid he
  have hRt := hRH.out
  have k1 := fun w => curveOf_any p d w hTH.out.hd
  have k2 := fun w => formOf_any f g w hfH.out.1 hfH.out.2
  obtain ⟨xs, hxs⟩ : ∃ xs, mkp 64 f = xs := ⟨_, rfl⟩
  obtain ⟨ys, hys⟩ : ∃ ys, mkp 64 g = ys := ⟨_, rfl⟩
  obtain ⟨ds, hds⟩ : ∃ ds, mkp 64 d = ds := ⟨_, rfl⟩
  rw [hxs, hys, hds] at hrd hRt
  rw [hds] at k1
  rw [hxs, hys] at k2
  have hpb := pbs_Rdd k hrd
  have hu1 := Lib.hid (unit_Rdd hrd.1)
  obtain ⟨n, hn⟩ : ∃ n, k.natAbs = n := ⟨_, rfl⟩
  rw [hn] at hRt
  have hnb : n ≤ 1000000000000 := by omega
  have kop := fun vd va vb w (h1 : IsRow w va xs) (h2 : IsRow w vb ys) => opposite_any vd va vb p xs ys w h1 h2 hrd.1.x64 hrd.1.y64 hrd.1.ne
  obtain ⟨OP, hOP⟩ : ∃ OP, opp p xs ys = OP := ⟨_, rfl⟩
  rw [hOP] at kop
  have kopH := Lib.hid kop
  have hTr := Lib.hid (show Tr ds ∧ Tr xs ∧ Tr ys from ⟨hrd.1.dP.tr, hrd.1.xP.tr, hrd.1.yP.tr⟩)
  have k1H := Lib.hid k1
  have k2H := Lib.hid k2
  clear kop k1 k2 hrd hxs hys hds he hfoH hbrH hDi hTH hfH hkH hRH
  clear T1 T2
  go_wp2_with fail
  have hbase := hZ.lt
  have hB9 := hb
  obtain ⟨w0, hw0⟩ : ∃ w0, w0 = w := ⟨_, rfl⟩
  rw [← hw0] at hbase
  go_upto_region 4 with (fail)
  refine gen_last2 (w := _) (by kernel_rfl) (by kernel_rfl) (by kernel_rfl) 7 8 (by kernel_rfl)
      (fun i => ([fun zv _ => zv = .int .i64 p, fun zv _ => zv = .agg (u8s 64 d), fun v w => ∃ vd, v = .agg #[.int .i64 p, vd] ∧ IsRow w vd ds, fun zv _ => zv = .agg (u8s 128 (fmF f g)), fun v w => ∃ va vb, v = .agg #[va, vb] ∧ IsRow w va (xs) ∧ IsRow w vb (ys), fun v w => ∃ gg, v = .pointer (some ⟨gg, 0, none⟩) ∧ w0.heap.size + 1 + 1 < gg ∧ Blk w gg #[.int .i64 0, .slice none 0 0] 51, fun v w => ∃ gg, v = .pointer (some ⟨gg, 0, none⟩) ∧ w0.heap.size + 1 + 1 < gg ∧ Blk w gg #[.slice none 0 0, .slice none 0 0] 55, fun _ _ => True, fun _ _ => True] : List (Value → World → Prop)).getD i (fun _ _ => True))
      (fun w' => Blk w' (w.heap.size) (u8s 64 d) 24 ∧ Blk w' (w.heap.size + 1) (u8s 128 (fmF f g)) 31 ∧ True) ⟨hA.drew, hB.drew, trivial⟩ (fun w1 w2 h hb => ⟨h.1.keep hb, h.2.1.keep hb, trivial⟩) ?_ ?_ ?_
  · intro i v w1 w2 h hb
    rcases i with _|_|_|_|_|_|_|_|_|i
    · exact h
    · exact h
    · obtain ⟨vd, e, h1⟩ := h; exact ⟨vd, e, h1.below hb⟩
    · exact h
    · obtain ⟨va, vb, e, h1, h2⟩ := h; exact ⟨va, vb, e, h1.below hb, h2.below hb⟩
    · obtain ⟨gg, e, h0, h1⟩ := h; exact ⟨gg, e, h0, h1.keep hb⟩
    · obtain ⟨gg, e, h0, h1⟩ := h; exact ⟨gg, e, h0, h1.keep hb⟩
    · exact h
    · exact h
    · exact h
  · intro i o ho hiZ hiZ2 a w2 hBl hSx hrd hpar
    rcases i with _|_|_|_|_|_|_|_|_|i
    · obtain rfl := Option.some.inj ho
      refine .inl ⟨rfl, ?_⟩
      have e0 : a.eval (.tmp 0) = .int .i64 p := hpar 0 _ (by kernel_rfl) (by kernel_rfl)
      exact wpv_of (wp_move _ _ rfl e0) (fun _ _ => rfl)
    · obtain rfl := Option.some.inj ho
      refine .inl ⟨rfl, ?_⟩
      exact wpv_of (wp_loadB 24 _ rfl _ (hpar 5 (.pointer (some ⟨w.heap.size, 0, none⟩)) (by kernel_rfl) (by kernel_rfl)) _ _ hSx.1 _ _ uPoly sPoly) (fun _ _ => rfl)
    · obtain rfl := Option.some.inj ho
      refine .inl ⟨rfl, ?_⟩
      have e25 : a.eval (.tmp 25) = .int .i64 p := hrd 0 _ 25 rfl rfl (by kernel_rfl) (by kernel_rfl)
      have e26 : a.eval (.tmp 26) = .agg (u8s 64 d) := hrd 1 _ 26 rfl rfl (by kernel_rfl) (by kernel_rfl)
      exact wpv_call 33 [.tmp 25, .tmp 26] _ rfl [.int .i64 p, .agg (u8s 64 d)] (by simp only [List.map_cons, List.map_nil, e25, e26]) Try.call33 ((k1H.out w2).mono fun _ _ ⟨vd, h1, h2, h3⟩ => ⟨_, h1, ⟨vd, rfl, h2⟩, h3⟩)
    · obtain rfl := Option.some.inj ho
      refine .inl ⟨rfl, ?_⟩
      exact wpv_of (wp_loadS 31 _ rfl _ (hpar 6 (.pointer (some ⟨w.heap.size + 1, 0, none⟩)) (by kernel_rfl) (by kernel_rfl)) _ _ hSx.2.1 tForm sForm) (fun _ _ => rfl)
    · obtain rfl := Option.some.inj ho
      refine .inl ⟨rfl, ?_⟩
      have e28 : a.eval (.tmp 28) = .agg (u8s 128 (fmF f g)) := hrd 3 _ 28 rfl rfl (by kernel_rfl) (by kernel_rfl)
      exact wpv_call 35 [.tmp 28] _ rfl [.agg (u8s 128 (fmF f g))] (by simp only [List.map_cons, List.map_nil, e28]) Try.call35 ((k2H.out w2).mono fun _ _ ⟨va, vb, h1, h2, h3, h4⟩ => ⟨_, h1, ⟨va, vb, rfl, h2, h3⟩, h4⟩)
    · obtain rfl := Option.some.inj ho
      refine .inl ⟨rfl, ?_⟩
      exact wpv_alloc 51 rfl _ zcurve (w0.heap.size + 1 + 1 + 1) (by have := hBl.size; omega)
    · obtain rfl := Option.some.inj ho
      refine .inl ⟨rfl, ?_⟩
      exact wpv_alloc 55 rfl _ zform (w0.heap.size + 1 + 1 + 1) (by have := hBl.size; omega)
    · obtain rfl := Option.some.inj ho
      exact absurd rfl hiZ
    · obtain rfl := Option.some.inj ho
      exact absurd rfl hiZ2
    · simp at ho
  intro oZ oZ2 hoZ hoZ2 vals xD hBx hSx hc0
  obtain rfl := Option.some.inj hoZ
  obtain rfl := Option.some.inj hoZ2
  clear hoZ hoZ2
  have e0 : vals 0 = .int .i64 p := hc0 0 (by simp) (by decide) (by decide)
  have e1 : vals 1 = .agg (u8s 64 d) := hc0 1 (by simp) (by decide) (by decide)
  have cD2 : (fun v w => ∃ vd, v = .agg #[.int .i64 p, vd] ∧ IsRow w vd ds) (vals 2) xD := hc0 2 (by simp) (by decide) (by decide)
  generalize ev2 : vals 2 = uD2 at cD2
  have e3 : vals 3 = .agg (u8s 128 (fmF f g)) := hc0 3 (by simp) (by decide) (by decide)
  have cD4 : (fun v w => ∃ va vb, v = .agg #[va, vb] ∧ IsRow w va (xs) ∧ IsRow w vb (ys)) (vals 4) xD := hc0 4 (by simp) (by decide) (by decide)
  generalize ev4 : vals 4 = uD4 at cD4
  have cD5 : (fun v w => ∃ gg, v = .pointer (some ⟨gg, 0, none⟩) ∧ w0.heap.size + 1 + 1 < gg ∧ Blk w gg #[.int .i64 0, .slice none 0 0] 51) (vals 5) xD := hc0 5 (by simp) (by decide) (by decide)
  generalize ev5 : vals 5 = uD5 at cD5
  have cD6 : (fun v w => ∃ gg, v = .pointer (some ⟨gg, 0, none⟩) ∧ w0.heap.size + 1 + 1 < gg ∧ Blk w gg #[.slice none 0 0, .slice none 0 0] 55) (vals 6) xD := hc0 6 (by simp) (by decide) (by decide)
  generalize ev6 : vals 6 = uD6 at cD6
  refine ⟨rfl, rfl, ?_⟩
  simp only [List.length_cons, List.length_nil, Nat.zero_add, Nat.reduceAdd, List.replicate, seen2, Bool.false_eq_true, if_false, putAll, if_true, Act.put, List.setIfInBounds_toArray, List.set_cons_zero, List.set_cons_succ, e0, e1, ev2, e3, ev4, ev5, ev6]
  replace hZ := hZ.keep hBx
  replace hA := hSx.1
  replace hB := hSx.2.1
  replace hb := below_step hb hBx
  clear hc0 hSx e0 e1 ev2 e3 ev4 ev5 ev6
  obtain ⟨vd, rfl, hrd⟩ := cD2
  obtain ⟨va, vb, rfl, hra, hrb⟩ := cD4
  obtain ⟨gC, rfl, hgC, hC⟩ := cD5
  obtain ⟨gB, rfl, hgB, hF⟩ := cD6
  subst hw0
  have hgz := hZ.lt
  have hCB : gC ≠ gB := fun e => by
    subst e
    unfold Blk at hC hF
    rw [hC] at hF
    injection hF with h
    injection h with h1 h2
    exact absurd h2 (by decide)
  have hsd := hrd.slice'
  have hsa := hra.slice'
  have hsb := hrb.slice'
  refine wp_store_arr 51 _ _ rfl gC rfl #[.int .i64 p, vd] rfl _ _ hC scurve rfl (all_two rfl (one_slice hsd)) ?_
  refine wp_store_arr 55 _ _ rfl gB rfl #[va, vb] rfl _ _ (hF.setRow_other (Ne.symm hCB)) sform rfl (all_two (one_slice hsa) (one_slice hsb)) ?_
  have qC := (hC.setRow_same (cs := #[.int .i64 p, vd])).setRow_other (g := gB) (cs := #[va, vb]) hCB
  have qF := (hF.setRow_other (g := gC) (cs := #[.int .i64 p, vd]) (Ne.symm hCB)).setRow_same (cs := #[va, vb])
  have qZ := (hZ.setRow_other (g := gC) (cs := #[.int .i64 p, vd]) (by omega)).setRow_other (g := gB) (cs := #[va, vb]) (by omega)
  have qw : Hid (RwF ((xD.setRow gC #[.int .i64 p, vd]).setRow gB #[va, vb]) vd va vb ds xs ys) := Lib.hid ⟨(hrd.setRow hC (int_nil _ hTr.out.1) _).setRow (hF.setRow_other (Ne.symm hCB)) (two_nils _) _, (hra.setRow hC (int_nil _ hTr.out.2.1) _).setRow (hF.setRow_other (Ne.symm hCB)) (two_nils _) _, (hrb.setRow hC (int_nil _ hTr.out.2.2) _).setRow (hF.setRow_other (Ne.symm hCB)) (two_nils _) _⟩
  have qb := below_setRow (below_setRow hb (g := gC) (by omega) #[.int .i64 p, vd]) (g := gB) (by omega) #[va, vb]
  generalize World.setRow (xD.setRow gC #[.int .i64 p, vd]) gB #[va, vb] = v0 at *
  clear hC hF hZ hrd hra hrb hb hB9 hA hB k1H k2H hTr hBx hgz
  go_upto_region 5 with (fail)
  by_cases hk0 : k < 0
  · rw [show pbs p k xs ys = OP by unfold pbs; rw [if_pos hk0, hOP]] at hpb hRt
    have hpbH := Lib.hid hpb
    have hRtH := Lib.hid hRt
    have hkn : k = -(n : Int) := by omega
    subst hkn
    clear hpb hRt hOP hkb hn
    go_wp2_with ((with_reducible refine wpl_guard ?_); first | (refine wpl_load_str rfl 51 _ rfl _ rfl _ _ qC tcurve scurve ?_) | (refine wpl_load_str rfl 55 _ rfl _ rfl _ _ qF tform sform ?_))
    refine (kopH.out vd _ _ _ qw.out.a qw.out.b).mono ?_
    rintro e u1 ⟨n8, n9, rfl, h1, h2, hn⟩
    replace qw := Lib.hid (qw.out.below hn)
    have qn : Hid (RwF u1 vd n8 n9 ds xs OP) := Lib.hid ⟨qw.out.d, h1, h2⟩
    have hsn8 := h1.slice'
    have hsn9 := h2.slice'
    clear h1 h2
    replace qC := qC.keep hn
    replace qF := qF.keep hn
    replace qZ := qZ.keep hn
    replace qb := below_step qb hn
    clear hn
    go_upto_region 7 with ((with_reducible refine wpl_guard ?_); first | (refine wpl_store_arr rfl 55 _ _ rfl _ rfl _ rfl _ _ qF sform rfl (all_two (one_slice hsn8) (one_slice hsn9)) ?_))
    replace qw := Lib.hid (qw.out.setRow qF hsa hsb #[n8, n9])
    replace qn := Lib.hid (qn.out.setRow qF hsa hsb #[n8, n9])
    have zz := qF.setRow_same (cs := #[n8, n9])
    replace qC := qC.setRow_other (g := gB) (cs := #[n8, n9]) (by omega)
    replace qZ := qZ.setRow_other (g := gB) (cs := #[n8, n9]) (by omega)
    replace qb := below_setRow qb (g := gB) (by omega) #[n8, n9]
    replace qF := zz
    clear zz
    generalize World.setRow _ gB #[n8, n9] = v9 at *
    clear qw hsa hsb
    have qw := qn
    clear qn
    have hsa := hsn8
    have hsb := hsn9
    clear hsn8 hsn9
    go_wp2_with fail
    refine (unitForm_any _).mono ?_
    rintro e u2 ⟨vo1, vo2, rfl, ho1, ho2, hn⟩
    replace qw := Lib.hid (qw.out.below hn)
    have qo : Hid (RwF u2 vd vo1 vo2 ds [1] []) := Lib.hid ⟨qw.out.d, ho1, ho2⟩
    have hso1 := ho1.slice'
    have hso2 := ho2.slice'
    clear ho1 ho2
    replace qC := qC.keep hn
    replace qF := qF.keep hn
    replace qZ := qZ.keep hn
    replace qb := below_step qb hn
    clear hn
    have hgO := qZ.lt
    have hgO2 := qF.lt
    have hgO3 := qC.lt
    go_wp2_with ((with_reducible refine wpl_guard ?_); first | (refine wpl_alloc_arr rfl 55 rfl _ zform ?_) | (refine wpl_store_new rfl 55 _ _ rfl _ rfl rfl _ rfl sform rfl (all_two (one_slice hso1) (one_slice hso2)) ?_))
    have qO := Blk.newAt (w := u2) (n := u2.heap.size) rfl #[vo1, vo2] 55
    replace qC := qC.alloc (.cells #[vo1, vo2] 55)
    replace qF := qF.alloc (.cells #[vo1, vo2] 55)
    replace qZ := qZ.alloc (.cells #[vo1, vo2] 55)
    replace qw := Lib.hid (qw.out.below (below_new _ (.cells #[vo1, vo2] 55)))
    replace qo := Lib.hid (qo.out.below (below_new _ (.cells #[vo1, vo2] 55)))
    replace qb := below_step qb (below_new _ (.cells #[vo1, vo2] 55))
    generalize hgg : u2.heap.size = gO at hgO hgO2 hgO3 qO
    generalize u2.alloc (.cells #[vo1, vo2] 55) = v7 at *
    try rw [hgg]
    clear hgg
    simp only [Act.put, List.setIfInBounds_toArray, List.set_cons_zero, List.set_cons_succ]
    go_loopw [3] (fun kk wr => ∃ (j : Nat) (o1 o2 c1 c2 : List Int) (vo1 vo2 vc1 vc2 : Value), j ≤ n ∧ kk = .int .i64 j ∧ Hid (Rdd p ds (o1, o2)) ∧ Hid (Rdd p ds (c1, c2)) ∧ Hid (fpw p ds j (o1, o2) (c1, c2) = (RA, RB)) ∧ Hid (RwF wr vd vo1 vo2 ds o1 o2) ∧ Hid (RwF wr vd vc1 vc2 ds c1 c2) ∧ Blk wr gC #[.int .i64 p, vd] 51 ∧ Blk wr gB #[vc1, vc2] 55 ∧ Blk wr gO #[vo1, vo2] 55 ∧ Blk wr (w0.heap.size + 1 + 1) (u8s 128 fun _ => 0) 31 ∧ Below w0.heap.size w0 wr) (fun kk _ => (intOf kk).toNat)
    case atStart => exact ⟨n, [1], [], xs, OP, vo1, vo2, n8, n9, Nat.le_refl _, by first | rfl | go_num | (congr 1; omega), hu1, hpbH, hRtH, qo, qw, qC, qF, qO, qZ, qb⟩
    case round =>
      clear qC qF qZ qO qb qw qo hpbH hRtH hu1 hso1 hso2 hsa hsb
      obtain ⟨j, o1, o2, c1, c2, vo1, vo2, vc1, vc2, hj, rfl, hRo, hRc, hS, qo, qw, qC, qF, qO, qZ, qb⟩ := hrel
      by_cases h0 : j = 0
      · subst h0
        have hoR := (fpw_zero p ds (o1, o2) (c1, c2)).symm.trans hS.out
        injection hoR with q1 q2
        subst q1 q2
        have kt := Lib.hid (fun va vb w (h1 : IsRow w va o1) (h2 : IsRow w vb o2) => toldF_any va vb p o1 o2 w h1 h2 hRo.out.1.x64 hRo.out.1.y64)
        clear hS
        go_wp2_with ((with_reducible refine wpl_guard ?_); first | (refine wpl_load_str rfl 55 _ rfl _ rfl _ _ qO tform sform ?_))
        refine (kt.out _ _ _ qo.out.a qo.out.b).mono ?_
        rintro e u3 ⟨rfl, hn⟩
        replace qZ := qZ.keep hn
        replace qb := below_step qb hn
        clear hn
        go_wp2_with ((with_reducible refine wpl_guard ?_); first | (refine wpl_store_arr rfl 31 _ _ rfl _ rfl _ rfl _ _ qZ sForm (by simp only [u8s_size]) (u8s_oneCell _ _) ?_))
        exact bodyPost_ret (res_st (x := .int .i64 0) rfl rfl (qZ.setRow_same (cs := u8s 128 (fmF (cf o1) (cf o2)))) tForm sForm rfl) rfl ⟨by rw [heH.out]; rfl, below_setRow qb (by omega) _⟩
      · have hj1 : 0 < (j : Int) := by omega
        have hand := and_one_i64 j (by omega)
        have hstep := hS.out
        rw [fpw_step _ _ _ _ h0] at hstep
        have hlt := Lib.hid (show j / 2 < j ∧ j / 2 ≤ n by omega)
        have kc := fun va vb w (h : RwF w vd va vb ds c1 c2) => composeF_any vd va vb va vb p ds c1 c2 c1 c2 w h.d h.a h.b h.a h.b hRc.out hRc.out
        have hRc2 := cpr_Rdd hRc.out hRc.out
        obtain ⟨e1, e2, hcc⟩ := pair_of (cpr p ds (c1, c2) (c1, c2))
        rw [hcc] at kc hRc2 hstep
        have kcH := Lib.hid kc
        have hRc3 := Lib.hid hRc2
        have ko := fun va vb va2 vb2 w (h : RwF w vd va vb ds o1 o2) (h2 : RwF w vd va2 vb2 ds c1 c2) => composeF_any vd va vb va2 vb2 p ds o1 o2 c1 c2 w h.d h.a h.b h2.a h2.b hRo.out hRc.out
        have hRo2 := cpr_Rdd hRo.out hRc.out
        obtain ⟨m1, m2, hmm⟩ := pair_of (cpr p ds (o1, o2) (c1, c2))
        rw [hmm] at ko hRo2 hstep
        have koH := Lib.hid ko
        have hRo3 := Lib.hid hRo2
        have hsvo1 := qo.out.a.slice'
        have hsvo2 := qo.out.b.slice'
        have hsvc1 := qw.out.a.slice'
        have hsvc2 := qw.out.b.slice'
        clear kc ko hRc2 hRo2 hcc hmm h0 hS hRc
        by_cases h2 : j % 2 = 1
        · rw [if_pos h2] at hstep
          have hb1 : (bits BinOp.and IntKind.i64 (j : Int) 1 == 1) = true := by rw [hand, beq_iff_eq]; omega
          have hSt := Lib.hid hstep
          clear hstep h2 hand
          go_wp2_with ((with_reducible refine wpl_guard ?_); first | (refine wpl_load_str rfl 51 _ rfl _ rfl _ _ qC tcurve scurve ?_) | (refine wpl_load_str rfl 55 _ rfl _ rfl _ _ qO tform sform ?_) | (refine wpl_load_str rfl 55 _ rfl _ rfl _ _ qF tform sform ?_))
          refine (koH.out _ _ _ _ _ qo.out qw.out).mono ?_
          rintro e u4 ⟨n1, n2, rfl, h1, h2, hn⟩
          replace qw := Lib.hid (qw.out.below hn)
          replace qo := Lib.hid (qo.out.below hn)
          have qn : Hid (RwF u4 vd n1 n2 ds m1 m2) := Lib.hid ⟨qw.out.d, h1, h2⟩
          have hsn1 := h1.slice'
          have hsn2 := h2.slice'
          clear h1 h2
          replace qC := qC.keep hn
          replace qF := qF.keep hn
          replace qZ := qZ.keep hn
          replace qO := qO.keep hn
          replace qb := below_step qb hn
          clear hn
          go_upto_region 12 with ((with_reducible refine wpl_guard ?_); first | (refine wpl_store_arr rfl 55 _ _ rfl _ rfl _ rfl _ _ qO sform rfl (all_two (one_slice hsn1) (one_slice hsn2)) ?_))
          replace qw := Lib.hid (qw.out.setRow qO hsvo1 hsvo2 #[n1, n2])
          replace qo := Lib.hid (qo.out.setRow qO hsvo1 hsvo2 #[n1, n2])
          replace qn := Lib.hid (qn.out.setRow qO hsvo1 hsvo2 #[n1, n2])
          have zz := qO.setRow_same (cs := #[n1, n2])
          replace qC := qC.setRow_other (g := gO) (cs := #[n1, n2]) (by omega)
          replace qF := qF.setRow_other (g := gO) (cs := #[n1, n2]) (by omega)
          replace qZ := qZ.setRow_other (g := gO) (cs := #[n1, n2]) (by omega)
          replace qb := below_setRow qb (g := gO) (by omega) #[n1, n2]
          replace qO := zz
          clear zz
          generalize World.setRow _ gO #[n1, n2] = v1 at *
          clear qo
          have qo := qn
          clear qn
          go_wp2_with ((with_reducible refine wpl_guard ?_); first | (refine wpl_load_str rfl 51 _ rfl _ rfl _ _ qC tcurve scurve ?_) | (refine wpl_load_str rfl 55 _ rfl _ rfl _ _ qF tform sform ?_))
          refine (kcH.out _ _ _ qw.out).mono ?_
          rintro e u5 ⟨n3, n4, rfl, h1, h2, hn⟩
          replace qw := Lib.hid (qw.out.below hn)
          replace qo := Lib.hid (qo.out.below hn)
          have qn : Hid (RwF u5 vd n3 n4 ds e1 e2) := Lib.hid ⟨qw.out.d, h1, h2⟩
          have hsn3 := h1.slice'
          have hsn4 := h2.slice'
          clear h1 h2
          replace qC := qC.keep hn
          replace qF := qF.keep hn
          replace qZ := qZ.keep hn
          replace qO := qO.keep hn
          replace qb := below_step qb hn
          clear hn
          go_upto_region 9 with ((with_reducible refine wpl_guard ?_); first | (refine wpl_store_arr rfl 55 _ _ rfl _ rfl _ rfl _ _ qF sform rfl (all_two (one_slice hsn3) (one_slice hsn4)) ?_))
          replace qo := Lib.hid (qo.out.setRow qF hsvc1 hsvc2 #[n3, n4])
          replace qn := Lib.hid (qn.out.setRow qF hsvc1 hsvc2 #[n3, n4])
          have zz := qF.setRow_same (cs := #[n3, n4])
          replace qC := qC.setRow_other (g := gB) (cs := #[n3, n4]) (by omega)
          replace qO := qO.setRow_other (g := gB) (cs := #[n3, n4]) (by omega)
          replace qZ := qZ.setRow_other (g := gB) (cs := #[n3, n4]) (by omega)
          replace qb := below_setRow qb (g := gB) (by omega) #[n3, n4]
          replace qF := zz
          clear zz
          generalize World.setRow _ gB #[n3, n4] = v2 at *
          simp only [Act.put, List.setIfInBounds_toArray, List.set_cons_zero, List.set_cons_succ]
          go_wp2_with fail
          go_roundw
          case rel => exact ⟨j / 2, m1, m2, e1, e2, n1, n2, n3, n4, hlt.out.2, by first | go_num | (congr 1; exact shr_one j) | (congr 1; omega), hRo3, hRc3, hSt, qo, qn, qC, qF, qO, qZ, qb⟩
          case measure => have h9 := hlt.out; have h8 := shr_one j; simp only [intOf]; omega
        · rw [if_neg h2] at hstep
          have hb1 : (bits BinOp.and IntKind.i64 (j : Int) 1 == 1) = false := by rw [hand, beq_eq_false_iff_ne]; omega
          have hSt := Lib.hid hstep
          clear hstep h2 hand
          go_wp2_with ((with_reducible refine wpl_guard ?_); first | (refine wpl_load_str rfl 51 _ rfl _ rfl _ _ qC tcurve scurve ?_) | (refine wpl_load_str rfl 55 _ rfl _ rfl _ _ qF tform sform ?_))
          refine (kcH.out _ _ _ qw.out).mono ?_
          rintro e u6 ⟨n3, n4, rfl, h1, h2, hn⟩
          replace qw := Lib.hid (qw.out.below hn)
          replace qo := Lib.hid (qo.out.below hn)
          have qn : Hid (RwF u6 vd n3 n4 ds e1 e2) := Lib.hid ⟨qw.out.d, h1, h2⟩
          have hsn3 := h1.slice'
          have hsn4 := h2.slice'
          clear h1 h2
          replace qC := qC.keep hn
          replace qF := qF.keep hn
          replace qZ := qZ.keep hn
          replace qO := qO.keep hn
          replace qb := below_step qb hn
          clear hn
          go_upto_region 9 with ((with_reducible refine wpl_guard ?_); first | (refine wpl_store_arr rfl 55 _ _ rfl _ rfl _ rfl _ _ qF sform rfl (all_two (one_slice hsn3) (one_slice hsn4)) ?_))
          replace qo := Lib.hid (qo.out.setRow qF hsvc1 hsvc2 #[n3, n4])
          replace qn := Lib.hid (qn.out.setRow qF hsvc1 hsvc2 #[n3, n4])
          have zz := qF.setRow_same (cs := #[n3, n4])
          replace qC := qC.setRow_other (g := gB) (cs := #[n3, n4]) (by omega)
          replace qO := qO.setRow_other (g := gB) (cs := #[n3, n4]) (by omega)
          replace qZ := qZ.setRow_other (g := gB) (cs := #[n3, n4]) (by omega)
          replace qb := below_setRow qb (g := gB) (by omega) #[n3, n4]
          replace qF := zz
          clear zz
          generalize World.setRow _ gB #[n3, n4] = v2 at *
          simp only [Act.put, List.setIfInBounds_toArray, List.set_cons_zero, List.set_cons_succ]
          go_wp2_with fail
          go_roundw
          case rel => exact ⟨j / 2, o1, o2, e1, e2, vo1, vo2, n3, n4, hlt.out.2, by first | go_num | (congr 1; exact shr_one j) | (congr 1; omega), hRo, hRc3, hSt, qo, qn, qC, qF, qO, qZ, qb⟩
          case measure => have h9 := hlt.out; have h8 := shr_one j; simp only [intOf]; omega
  · rw [show pbs p k xs ys = ys by unfold pbs; rw [if_neg hk0]] at hpb hRt
    have hpbH := Lib.hid hpb
    have hRtH := Lib.hid hRt
    have hkn : k = (n : Int) := by omega
    subst hkn
    clear hpb hRt hOP hkb hn
    go_wp2_with fail
    refine (unitForm_any _).mono ?_
    rintro e u1 ⟨vo1, vo2, rfl, ho1, ho2, hn⟩
    replace qw := Lib.hid (qw.out.below hn)
    have qo : Hid (RwF u1 vd vo1 vo2 ds [1] []) := Lib.hid ⟨qw.out.d, ho1, ho2⟩
    have hso1 := ho1.slice'
    have hso2 := ho2.slice'
    clear ho1 ho2
    replace qC := qC.keep hn
    replace qF := qF.keep hn
    replace qZ := qZ.keep hn
    replace qb := below_step qb hn
    clear hn
    have hgO := qZ.lt
    have hgO2 := qF.lt
    have hgO3 := qC.lt
    go_wp2_with ((with_reducible refine wpl_guard ?_); first | (refine wpl_alloc_arr rfl 55 rfl _ zform ?_) | (refine wpl_store_new rfl 55 _ _ rfl _ rfl rfl _ rfl sform rfl (all_two (one_slice hso1) (one_slice hso2)) ?_))
    have qO := Blk.newAt (w := u1) (n := u1.heap.size) rfl #[vo1, vo2] 55
    replace qC := qC.alloc (.cells #[vo1, vo2] 55)
    replace qF := qF.alloc (.cells #[vo1, vo2] 55)
    replace qZ := qZ.alloc (.cells #[vo1, vo2] 55)
    replace qw := Lib.hid (qw.out.below (below_new _ (.cells #[vo1, vo2] 55)))
    replace qo := Lib.hid (qo.out.below (below_new _ (.cells #[vo1, vo2] 55)))
    replace qb := below_step qb (below_new _ (.cells #[vo1, vo2] 55))
    generalize hgg : u1.heap.size = gO at hgO hgO2 hgO3 qO
    generalize u1.alloc (.cells #[vo1, vo2] 55) = v7 at *
    try rw [hgg]
    clear hgg
    simp only [Act.put, List.setIfInBounds_toArray, List.set_cons_zero, List.set_cons_succ]
    go_loopw [3] (fun kk wr => ∃ (j : Nat) (o1 o2 c1 c2 : List Int) (vo1 vo2 vc1 vc2 : Value), j ≤ n ∧ kk = .int .i64 j ∧ Hid (Rdd p ds (o1, o2)) ∧ Hid (Rdd p ds (c1, c2)) ∧ Hid (fpw p ds j (o1, o2) (c1, c2) = (RA, RB)) ∧ Hid (RwF wr vd vo1 vo2 ds o1 o2) ∧ Hid (RwF wr vd vc1 vc2 ds c1 c2) ∧ Blk wr gC #[.int .i64 p, vd] 51 ∧ Blk wr gB #[vc1, vc2] 55 ∧ Blk wr gO #[vo1, vo2] 55 ∧ Blk wr (w0.heap.size + 1 + 1) (u8s 128 fun _ => 0) 31 ∧ Below w0.heap.size w0 wr) (fun kk _ => (intOf kk).toNat)
    case atStart => exact ⟨n, [1], [], xs, ys, vo1, vo2, va, vb, Nat.le_refl _, by first | rfl | go_num | (congr 1; omega), hu1, hpbH, hRtH, qo, qw, qC, qF, qO, qZ, qb⟩
    case round =>
      clear qC qF qZ qO qb qw qo hpbH hRtH hu1 hso1 hso2 hsa hsb
      obtain ⟨j, o1, o2, c1, c2, vo1, vo2, vc1, vc2, hj, rfl, hRo, hRc, hS, qo, qw, qC, qF, qO, qZ, qb⟩ := hrel
      by_cases h0 : j = 0
      · subst h0
        have hoR := (fpw_zero p ds (o1, o2) (c1, c2)).symm.trans hS.out
        injection hoR with q1 q2
        subst q1 q2
        have kt := Lib.hid (fun va vb w (h1 : IsRow w va o1) (h2 : IsRow w vb o2) => toldF_any va vb p o1 o2 w h1 h2 hRo.out.1.x64 hRo.out.1.y64)
        clear hS
        go_wp2_with ((with_reducible refine wpl_guard ?_); first | (refine wpl_load_str rfl 55 _ rfl _ rfl _ _ qO tform sform ?_))
        refine (kt.out _ _ _ qo.out.a qo.out.b).mono ?_
        rintro e u2 ⟨rfl, hn⟩
        replace qZ := qZ.keep hn
        replace qb := below_step qb hn
        clear hn
        go_wp2_with ((with_reducible refine wpl_guard ?_); first | (refine wpl_store_arr rfl 31 _ _ rfl _ rfl _ rfl _ _ qZ sForm (by simp only [u8s_size]) (u8s_oneCell _ _) ?_))
        exact bodyPost_ret (res_st (x := .int .i64 0) rfl rfl (qZ.setRow_same (cs := u8s 128 (fmF (cf o1) (cf o2)))) tForm sForm rfl) rfl ⟨by rw [heH.out]; rfl, below_setRow qb (by omega) _⟩
      · have hj1 : 0 < (j : Int) := by omega
        have hand := and_one_i64 j (by omega)
        have hstep := hS.out
        rw [fpw_step _ _ _ _ h0] at hstep
        have hlt := Lib.hid (show j / 2 < j ∧ j / 2 ≤ n by omega)
        have kc := fun va vb w (h : RwF w vd va vb ds c1 c2) => composeF_any vd va vb va vb p ds c1 c2 c1 c2 w h.d h.a h.b h.a h.b hRc.out hRc.out
        have hRc2 := cpr_Rdd hRc.out hRc.out
        obtain ⟨e1, e2, hcc⟩ := pair_of (cpr p ds (c1, c2) (c1, c2))
        rw [hcc] at kc hRc2 hstep
        have kcH := Lib.hid kc
        have hRc3 := Lib.hid hRc2
        have ko := fun va vb va2 vb2 w (h : RwF w vd va vb ds o1 o2) (h2 : RwF w vd va2 vb2 ds c1 c2) => composeF_any vd va vb va2 vb2 p ds o1 o2 c1 c2 w h.d h.a h.b h2.a h2.b hRo.out hRc.out
        have hRo2 := cpr_Rdd hRo.out hRc.out
        obtain ⟨m1, m2, hmm⟩ := pair_of (cpr p ds (o1, o2) (c1, c2))
        rw [hmm] at ko hRo2 hstep
        have koH := Lib.hid ko
        have hRo3 := Lib.hid hRo2
        have hsvo1 := qo.out.a.slice'
        have hsvo2 := qo.out.b.slice'
        have hsvc1 := qw.out.a.slice'
        have hsvc2 := qw.out.b.slice'
        clear kc ko hRc2 hRo2 hcc hmm h0 hS hRc
        by_cases h2 : j % 2 = 1
        · rw [if_pos h2] at hstep
          have hb1 : (bits BinOp.and IntKind.i64 (j : Int) 1 == 1) = true := by rw [hand, beq_iff_eq]; omega
          have hSt := Lib.hid hstep
          clear hstep h2 hand
          go_wp2_with ((with_reducible refine wpl_guard ?_); first | (refine wpl_load_str rfl 51 _ rfl _ rfl _ _ qC tcurve scurve ?_) | (refine wpl_load_str rfl 55 _ rfl _ rfl _ _ qO tform sform ?_) | (refine wpl_load_str rfl 55 _ rfl _ rfl _ _ qF tform sform ?_))
          refine (koH.out _ _ _ _ _ qo.out qw.out).mono ?_
          rintro e u3 ⟨n1, n2, rfl, h1, h2, hn⟩
          replace qw := Lib.hid (qw.out.below hn)
          replace qo := Lib.hid (qo.out.below hn)
          have qn : Hid (RwF u3 vd n1 n2 ds m1 m2) := Lib.hid ⟨qw.out.d, h1, h2⟩
          have hsn1 := h1.slice'
          have hsn2 := h2.slice'
          clear h1 h2
          replace qC := qC.keep hn
          replace qF := qF.keep hn
          replace qZ := qZ.keep hn
          replace qO := qO.keep hn
          replace qb := below_step qb hn
          clear hn
          go_upto_region 12 with ((with_reducible refine wpl_guard ?_); first | (refine wpl_store_arr rfl 55 _ _ rfl _ rfl _ rfl _ _ qO sform rfl (all_two (one_slice hsn1) (one_slice hsn2)) ?_))
          replace qw := Lib.hid (qw.out.setRow qO hsvo1 hsvo2 #[n1, n2])
          replace qo := Lib.hid (qo.out.setRow qO hsvo1 hsvo2 #[n1, n2])
          replace qn := Lib.hid (qn.out.setRow qO hsvo1 hsvo2 #[n1, n2])
          have zz := qO.setRow_same (cs := #[n1, n2])
          replace qC := qC.setRow_other (g := gO) (cs := #[n1, n2]) (by omega)
          replace qF := qF.setRow_other (g := gO) (cs := #[n1, n2]) (by omega)
          replace qZ := qZ.setRow_other (g := gO) (cs := #[n1, n2]) (by omega)
          replace qb := below_setRow qb (g := gO) (by omega) #[n1, n2]
          replace qO := zz
          clear zz
          generalize World.setRow _ gO #[n1, n2] = v1 at *
          clear qo
          have qo := qn
          clear qn
          go_wp2_with ((with_reducible refine wpl_guard ?_); first | (refine wpl_load_str rfl 51 _ rfl _ rfl _ _ qC tcurve scurve ?_) | (refine wpl_load_str rfl 55 _ rfl _ rfl _ _ qF tform sform ?_))
          refine (kcH.out _ _ _ qw.out).mono ?_
          rintro e u4 ⟨n3, n4, rfl, h1, h2, hn⟩
          replace qw := Lib.hid (qw.out.below hn)
          replace qo := Lib.hid (qo.out.below hn)
          have qn : Hid (RwF u4 vd n3 n4 ds e1 e2) := Lib.hid ⟨qw.out.d, h1, h2⟩
          have hsn3 := h1.slice'
          have hsn4 := h2.slice'
          clear h1 h2
          replace qC := qC.keep hn
          replace qF := qF.keep hn
          replace qZ := qZ.keep hn
          replace qO := qO.keep hn
          replace qb := below_step qb hn
          clear hn
          go_upto_region 9 with ((with_reducible refine wpl_guard ?_); first | (refine wpl_store_arr rfl 55 _ _ rfl _ rfl _ rfl _ _ qF sform rfl (all_two (one_slice hsn3) (one_slice hsn4)) ?_))
          replace qo := Lib.hid (qo.out.setRow qF hsvc1 hsvc2 #[n3, n4])
          replace qn := Lib.hid (qn.out.setRow qF hsvc1 hsvc2 #[n3, n4])
          have zz := qF.setRow_same (cs := #[n3, n4])
          replace qC := qC.setRow_other (g := gB) (cs := #[n3, n4]) (by omega)
          replace qO := qO.setRow_other (g := gB) (cs := #[n3, n4]) (by omega)
          replace qZ := qZ.setRow_other (g := gB) (cs := #[n3, n4]) (by omega)
          replace qb := below_setRow qb (g := gB) (by omega) #[n3, n4]
          replace qF := zz
          clear zz
          generalize World.setRow _ gB #[n3, n4] = v2 at *
          simp only [Act.put, List.setIfInBounds_toArray, List.set_cons_zero, List.set_cons_succ]
          go_wp2_with fail
          go_roundw
          case rel => exact ⟨j / 2, m1, m2, e1, e2, n1, n2, n3, n4, hlt.out.2, by first | go_num | (congr 1; exact shr_one j) | (congr 1; omega), hRo3, hRc3, hSt, qo, qn, qC, qF, qO, qZ, qb⟩
          case measure => have h9 := hlt.out; have h8 := shr_one j; simp only [intOf]; omega
        · rw [if_neg h2] at hstep
          have hb1 : (bits BinOp.and IntKind.i64 (j : Int) 1 == 1) = false := by rw [hand, beq_eq_false_iff_ne]; omega
          have hSt := Lib.hid hstep
          clear hstep h2 hand
          go_wp2_with ((with_reducible refine wpl_guard ?_); first | (refine wpl_load_str rfl 51 _ rfl _ rfl _ _ qC tcurve scurve ?_) | (refine wpl_load_str rfl 55 _ rfl _ rfl _ _ qF tform sform ?_))
          refine (kcH.out _ _ _ qw.out).mono ?_
          rintro e u5 ⟨n3, n4, rfl, h1, h2, hn⟩
          replace qw := Lib.hid (qw.out.below hn)
          replace qo := Lib.hid (qo.out.below hn)
          have qn : Hid (RwF u5 vd n3 n4 ds e1 e2) := Lib.hid ⟨qw.out.d, h1, h2⟩
          have hsn3 := h1.slice'
          have hsn4 := h2.slice'
          clear h1 h2
          replace qC := qC.keep hn
          replace qF := qF.keep hn
          replace qZ := qZ.keep hn
          replace qO := qO.keep hn
          replace qb := below_step qb hn
          clear hn
          go_upto_region 9 with ((with_reducible refine wpl_guard ?_); first | (refine wpl_store_arr rfl 55 _ _ rfl _ rfl _ rfl _ _ qF sform rfl (all_two (one_slice hsn3) (one_slice hsn4)) ?_))
          replace qo := Lib.hid (qo.out.setRow qF hsvc1 hsvc2 #[n3, n4])
          replace qn := Lib.hid (qn.out.setRow qF hsvc1 hsvc2 #[n3, n4])
          have zz := qF.setRow_same (cs := #[n3, n4])
          replace qC := qC.setRow_other (g := gB) (cs := #[n3, n4]) (by omega)
          replace qO := qO.setRow_other (g := gB) (cs := #[n3, n4]) (by omega)
          replace qZ := qZ.setRow_other (g := gB) (cs := #[n3, n4]) (by omega)
          replace qb := below_setRow qb (g := gB) (by omega) #[n3, n4]
          replace qF := zz
          clear zz
          generalize World.setRow _ gB #[n3, n4] = v2 at *
          simp only [Act.put, List.setIfInBounds_toArray, List.set_cons_zero, List.set_cons_succ]
          go_wp2_with fail
          go_roundw
          case rel => exact ⟨j / 2, o1, o2, e1, e2, vo1, vo2, n3, n4, hlt.out.2, by first | go_num | (congr 1; exact shr_one j) | (congr 1; omega), hRo, hRc3, hSt, qo, qn, qC, qF, qO, qZ, qb⟩
          case measure => have h9 := hlt.out; have h8 := shr_one j; simp only [intOf]; omega

theorem frm_iff {p : Int} {d f g : Nat → Int} {b1 bf br : Bool} {T1 T2 : Nat → Bool} (hT : FrmT p d (formsF [fmF f g]) 1 b1 bf br T1 T2) : FormOk p (mkp 64 d) f g ↔ bf = true := by
  have h1 := hT.t1 0 (by omega)
  replace h1 := (FormOk_congr (p := p) (ds := mkp 64 d) (fA_lit [(f, g)] 0 (by simp)) (fB_lit [(f, g)] 0 (by simp))).symm.trans h1
  refine h1.trans (Iff.trans ?_ hT.all1)
  exact ⟨fun h k hk => by
    obtain rfl : k = 0 := by omega
    exact h, fun h => h 0 (by omega)⟩
theorem PowerOfForm_pair (p : Int) (d F : Nat → Int) (k : Int) (_ : (Lit.int .i64 p).wf = true) (hd : By d) (hF : By F) (_ : (Lit.int .i64 k).wf = true) : ∃ (r0 : Nat → Int) (r1 : Int),
    (∀ w, Calls Try.prog 22 #[.int .i64 p, .agg (u8s 64 d), .agg (u8s 128 F), .int .i64 k] w fun e w' => e = .returned (.tuple #[.agg (u8s 128 r0), .int .i64 r1]) ∧ Below w.heap.size w w') ∧
    (∀ w, Calls Try.prog 23 #[.int .i64 p, .agg (u8s 64 d), .agg (u8s 128 F), .int .i64 k] w fun e w' => e = .returned (.tuple #[.agg (u8s 128 r0), .int .i64 r1]) ∧ Below w.heap.size w w') := by
  obtain ⟨b1, bf, br, T1, T2, hT, h1, h2⟩ := frmT_lit p d [(F, fun j => F (64 + j))] hd (fun x hx => by rw [List.mem_singleton] at hx; subst hx; exact ⟨hF, fun j => hF _⟩)
  rw [fmF_self F]
  have hfo := frm_iff hT
  obtain ⟨RA, RB, hR⟩ := pair_of (fpw p (mkp 64 d) k.natAbs ([1], []) (mkp 64 F, pbs p k (mkp 64 F) (mkp 64 (fun j => F (64 + j)))))
  exact ⟨_, _, fun w => specPowerOfForm_any d F _ k p b1 bf _ br T1 T2 _ _ w hR rfl hF (fun j => hF _) hT hfo (fun hb => h2 hb (F, fun j => F (64 + j)) (by simp)), fun w => implPowerOfForm_any d F _ k p b1 bf _ br T1 T2 _ _ w hR rfl hF (fun j => hF _) hT hfo (fun hb => h2 hb (F, fun j => F (64 + j)) (by simp))⟩
end Go.Proofs.Ytohgjihccjnheaa

/- Walks: a draw of a value's place. -/
import Derived.Test.YtddgbnkojdmekaaDr8
set_option linter.unusedVariables false
set_option linter.unusedSimpArgs false
namespace Go.Proofs.Ytddgbnkojdmekaa
open Go.RowKit
section
variable {P : Program} {fn : Func} {tmps : Array Value} {w : World}
theorem res_tct {p u t2 : Tmp} {ty n e : TypeId} (h : fn.results = #[.tmp u, .cell p ty, .tmp t2]) {g t : Nat} {cs : Array Value} (hp : tmps.getD p undef = .pointer (some ⟨g, 0, none⟩)) (hb : Blk w g cs t)
    (hu : P.underlying ty = some (.array n e)) (hi : (P.info? ty).map (·.size) = some cs.size) {x y : Value} (hx : tmps.getD u undef = x) (hy : tmps.getD t2 undef = y) : (results fn tmps).run P w = .ok (.tuple #[x, .agg cs, y]) w := by
  have hp' : tmps[p]?.getD undef = .pointer (some ⟨g, 0, none⟩) := by simpa using hp
  have hx' : tmps[u]?.getD undef = x := by simpa using hx
  have hy' : tmps[t2]?.getD undef = y := by simpa using hy
  simp [results, h, hp', hx', hy', asAddr, run_loadVar_row w g t ty cs _ _ hb hu rfl hi]
end
section
variable {P : Program} {o : Oper} {a : Act} {w : World} {Q : Exit → Act → World → Prop}
theorem wp_sub1 (t t' : TypeId) (x : Operand) (hop : o.op = .binOp .sub t x (.const (.int .i64 1)) t') (A : Int) (hx : a.eval x = .int .i64 A) (h0 : -100000 ≤ A) (h1 : A ≤ 100000) :
    o.wp P a w (fun a' w' => a' = a.put o.dst (.int .i64 (A - 1)) ∧ Below w.heap.size w w') Q := by
  have hw : IntKind.i64.wrap (A - 1) = A - 1 := by rw [IntKind.wrap_i64]; omega
  unfold Oper.wp execOp
  simp only [hop, hx, eval_const]
  simp only [eqGuard, binOp, Op.intArith, Sem.run_bind, Sem.run_pure, Result.andThen_ok, Bool.not_false, if_true, hw, Oper.upon]
  simp only [ne_eq, not_true, if_false, Sem.run_pure, Result.andThen_ok]
  exact ⟨trivial, Below.refl _ _⟩
theorem wp_max0 (x : Operand) (ts : Array TypeId) (hop : o.op = .call { callee := .builtin .max, args := #[x, .const (.int .i64 0)], argTypes := ts }) (A : Int) (hx : a.eval x = .int .i64 A) :
    o.wp P a w (fun a' w' => (∃ m : Int, 0 ≤ m ∧ (m = A ∨ m = 0) ∧ a' = a.put o.dst (.int .i64 m)) ∧ Below w.heap.size w w') Q := by
  unfold Oper.wp execOp
  simp [hop, resolve, invoke, builtin, Builtin.max_, Builtin.max2, hx, eval_const, Sem.run_bind, Sem.run_pure, Oper.upon]
  refine ⟨⟨if A < 0 then 0 else A, ?_, ?_, ?_⟩, Below.refl _ _⟩
  · split <;> omega
  · split <;> simp
  · split <;> simp_all
end
set_option maxRecDepth 20000 in
set_option maxHeartbeats 4000000 in
theorem DrawValueAt_any (oa : Option Addr) (n c : Nat) (w : World) (hnm : n ≤ maxLen) (hc : CodeAt w oa n) :
    Calls Try.prog 17 #[.slice oa n c] w fun e w' => ∃ p f x, e = .returned (.tuple #[.int .i64 p, .agg (u8s 64 f), .int .i64 x]) ∧ -3 ≤ p ∧ p ≤ 11 ∧ -4611686018427387904 ≤ x ∧ x ≤ 1099511627776 ∧ By f ∧ Below w.heap.size w w' := by
  have hb := below_new w (.cells (u8s 64 fun _ => 0) 25)
  have hZ3 := Blk.new w (u8s 64 fun _ => 0) 25
  have hF := Lib.hid (l01From_any oa n c _ hnm (hc.below hb))
  clear hc hnm
  go_enter Try.func17, Try.ntmps17
  go_wp2_with ((with_reducible refine wpl_guard ?_); first | (refine wpl_alloc_arr rfl 25 rfl _ zPoly ?_))
  refine hF.out.mono ?_
  rintro e wz1 ⟨g, rfl, hS1, hn⟩
  have hge := hS1.ge
  rw [size_alloc] at hge
  obtain ⟨B, hBe⟩ : ∃ q, (w.alloc (.cells (u8s 64 fun _ => 0) 25)).heap.size = q := ⟨_, rfl⟩
  rw [hBe] at hS1
  rw [size_alloc] at hBe
  replace hZ3 := hZ3.keep hn
  replace hb := below_step hb hn
  have hSp := Lib.hid (l01Spoil_any _ g wz1 hS1)
  clear hF hn
  go_wp2_with fail
  refine hSp.out.mono ?_
  rintro e wz2 ⟨p, f, rfl, hp0, hp1, hf, hS2, hg2⟩
  replace hZ3 := hZ3.grownR hg2 (fun e => by injection e with e; omega)
  replace hb := below_then hb hg2 (fun k e => by injection e with e; omega)
  have h7 := Blk.new wz2 (u8s 64 f) 25
  have hn2 := below_new wz2 (.cells (u8s 64 f) 25)
  have hlo := hZ3.lt
  have hlt2 := hS2.lt
  replace hZ3 := hZ3.keep hn2
  replace hb := below_step hb hn2
  have hS := Lib.hid (hS2.below hn2)
  have hfH := Lib.hid hf
  clear hn2 hSp hS1 hS2 hg2 hf
  go_upto_region 3 with ((with_reducible refine wpl_guard ?_); first | (refine wpl_alloc_arr rfl 25 rfl _ zPoly ?_) | (refine wpl_store_new rfl 25 _ _ rfl _ rfl rfl _ rfl sPoly (by simp only [u8s_size]) (u8s_oneCell _ _) ?_))
  obtain ⟨g3, hg3⟩ : ∃ q, w.heap.size = q := ⟨_, rfl⟩
  obtain ⟨g7, hg7⟩ : ∃ q, wz2.heap.size = q := ⟨_, rfl⟩
  have hn3 : some g3 ≠ some g := fun e => by injection e with e; omega
  have hn7 : some g7 ≠ some g := fun e => by injection e with e; omega
  rw [hg3] at hZ3
  rw [hg7] at h7
  rw [hg3, hg7]
  refine gen_last2R (w := _) (StR B g) (StR.drew _) StR.refl StR.trans (by kernel_rfl) (by kernel_rfl) (by kernel_rfl) 8 9 (by kernel_rfl)
    (fun i => ([fun v w => v = .int .i64 p, fun v w => v = .agg (u8s 64 f), fun v w => v = .pointer (some ⟨g, 0, none⟩), fun v w => v = .int .i64 p, fun v w => v = .int .i64 (p - 1), fun v w => ∃ m : Int, v = .int .i64 m ∧ 0 ≤ m ∧ m ≤ 10, fun v w => ∃ x : Int, v = .int .i64 x ∧ -4611686018427387904 ≤ x ∧ x ≤ 1099511627776, fun v w => v = .int .i64 p, fun _ _ => True, fun _ _ => True] : List (Value → World → Prop)).getD i (fun _ _ => True))
    (fun w' => Src B w' g ∧ Blk w' g7 (u8s 64 f) 25 ∧ Blk w' g3 (u8s 64 (fun _ => 0)) 25 ∧ True) ⟨hS.out.step (grown_drewR _ none) (fun q e => by cases e), h7.drew, hZ3.drew, trivial⟩ (fun w1 w2 h hb => ⟨hb.2 h.1, h.2.1.grownR hb.1 hn7, h.2.2.1.grownR hb.1 hn3, trivial⟩) ?_ ?_ ?_
  · intro i v w1 w2 h hb
    rcases i with _|_|_|_|_|_|_|_|_|_|i
    · exact h
    · exact h
    · exact h
    · exact h
    · exact h
    · exact h
    · exact h
    · exact h
    · exact h
    · exact h
    · exact h
  · intro i o ho hiZ hiZ2 a w2 hR hSx hrd hpar
    rcases i with _|_|_|_|_|_|_|_|_|_|i
    · obtain rfl := Option.some.inj ho
      refine .inl ⟨rfl, ?_⟩
      have e6 : a.eval (.tmp 6) = .int .i64 p := hpar 6 _ (by kernel_rfl) (by kernel_rfl)
      refine WpV.toR (wpv_of (wp_move _ _ rfl e6) (fun _ _ => rfl)) StR.of
    · obtain rfl := Option.some.inj ho
      refine .inl ⟨rfl, ?_⟩
      refine WpV.toR (wpv_of (wp_loadB 25 _ rfl _ (hpar 7 (.pointer (some ⟨g7, 0, none⟩)) (by kernel_rfl) (by kernel_rfl)) _ _ hSx.2.1 _ _ uPoly sPoly) (fun _ _ => rfl)) StR.of
    · obtain rfl := Option.some.inj ho
      refine .inl ⟨rfl, ?_⟩
      have e5 : a.eval (.tmp 5) = .pointer (some ⟨g, 0, none⟩) := hpar 5 _ (by kernel_rfl) (by kernel_rfl)
      refine WpV.toR (wpv_of (wp_move _ _ rfl e5) (fun _ _ => rfl)) StR.of
    · obtain rfl := Option.some.inj ho
      refine .inl ⟨rfl, ?_⟩
      have e6 : a.eval (.tmp 6) = .int .i64 p := hpar 6 _ (by kernel_rfl) (by kernel_rfl)
      refine WpV.toR (wpv_of (wp_move _ _ rfl e6) (fun _ _ => rfl)) StR.of
    · obtain rfl := Option.some.inj ho
      refine .inl ⟨rfl, ?_⟩
      have e18 : a.eval (.tmp 18) = .int .i64 p := hrd 3 _ 18 rfl rfl (by kernel_rfl) (by kernel_rfl)
      refine WpV.toR (wpv_of (wp_sub1 _ _ _ rfl p e18 (by omega) (by omega)) (fun _ _ => rfl)) StR.of
    · obtain rfl := Option.some.inj ho
      refine .inl ⟨rfl, ?_⟩
      have e19 : a.eval (.tmp 19) = .int .i64 (p - 1) := hrd 4 _ 19 rfl rfl (by kernel_rfl) (by kernel_rfl)
      refine WpV.toR (Oper.wp_mono (fun a' w' ⟨⟨m, h1, h2, h3⟩, h4⟩ => ?_) (wp_max0 _ _ rfl (p - 1) e19)) StR.of
      exact ⟨_, h3, ⟨m, rfl, h1, by omega⟩, h4⟩
    · obtain rfl := Option.some.inj ho
      refine .inl ⟨rfl, ?_⟩
      have e17 : a.eval (.tmp 17) = .pointer (some ⟨g, 0, none⟩) := hrd 2 _ 17 rfl rfl (by kernel_rfl) (by kernel_rfl)
      obtain ⟨m, e20, hm0, hm1⟩ : ∃ m : Int, a.eval (.tmp 20) = .int .i64 m ∧ 0 ≤ m ∧ m ≤ 10 := hrd 5 _ 20 rfl rfl (by kernel_rfl) (by kernel_rfl)
      exact wpr_call 45 [.tmp 17, .tmp 20] _ rfl [.pointer (some ⟨g, 0, none⟩), .int .i64 m] (by simp only [List.map_cons, List.map_nil, e17, e20]) Try.call45 ((l01Near_any B g m w2 hSx.1 (by omega) (by omega)).mono fun _ _ ⟨x, h1, h5, h6, h3, h4⟩ => ⟨_, h1, ⟨x, rfl, h5, h6⟩, h4, fun _ => h3⟩)
    · obtain rfl := Option.some.inj ho
      refine .inl ⟨rfl, ?_⟩
      have e15 : a.eval (.tmp 15) = .int .i64 p := hrd 0 _ 15 rfl rfl (by kernel_rfl) (by kernel_rfl)
      refine WpV.toR (wpv_of (wp_assign _ _ rfl e15) (fun _ _ => rfl)) StR.of
    · obtain rfl := Option.some.inj ho
      exact absurd rfl hiZ
    · obtain rfl := Option.some.inj ho
      exact absurd rfl hiZ2
    · simp at ho
  intro oZ oZ2 hoZ hoZ2 vals xE hR hSx hc0
  obtain rfl := Option.some.inj hoZ
  obtain rfl := Option.some.inj hoZ2
  clear hoZ hoZ2
  have e0 := hc0 0 (by simp) (by decide) (by decide)
  have e1 := hc0 1 (by simp) (by decide) (by decide)
  have e2 := hc0 2 (by simp) (by decide) (by decide)
  have e3 := hc0 3 (by simp) (by decide) (by decide)
  have e4 := hc0 4 (by simp) (by decide) (by decide)
  have e7 := hc0 7 (by simp) (by decide) (by decide)
  obtain ⟨m, e5, _, _⟩ : ∃ m : Int, vals 5 = .int .i64 m ∧ 0 ≤ m ∧ m ≤ 10 := hc0 5 (by simp) (by decide) (by decide)
  obtain ⟨x, e6, hx0, hx1⟩ : ∃ x : Int, vals 6 = .int .i64 x ∧ -4611686018427387904 ≤ x ∧ x ≤ 1099511627776 := hc0 6 (by simp) (by decide) (by decide)
  simp only [List.getD_cons_zero, List.getD_cons_succ] at e0 e1 e2 e3 e4 e7
  have hz3 := hSx.2.2.1
  have hb2 := below_then hb hR.1 (fun k e => by injection e with e; omega)
  clear hc0 hSx h7 hZ3 hS hR hb
  refine ⟨rfl, rfl, ?_⟩
  simp only [List.length_cons, List.length_nil, Nat.zero_add, Nat.reduceAdd, List.replicate, seen2, Bool.false_eq_true, if_false, putAll, if_true, Act.put, List.setIfInBounds_toArray, List.set_cons_zero, List.set_cons_succ, e0, e1, e2, e3, e4, e5, e6, e7]
  clear e0 e1 e2 e3 e4 e5 e6 e7
  refine wp_store_arr 25 _ _ rfl g3 rfl (u8s 64 f) rfl (u8s 64 fun _ => 0) _ hz3 sPoly (by simp only [u8s_size]) (u8s_oneCell _ _) ?_
  go_wp2_with fail
  exact bodyPost_ret (res_tct (x := .int .i64 p) (y := .int .i64 x) rfl rfl (hz3.setRow_same (cs := u8s 64 f)) uPoly sPoly rfl rfl) rfl ⟨_, _, _, rfl, hp0, hp1, hx0, hx1, hfH.out, below_setRow hb2 (by omega) _⟩
end Go.Proofs.Ytddgbnkojdmekaa

/- Walks: powers of forms, the reference's side. -/
import Derived.Test.YtohgjihccjnheabD14
import Derived.Test.YtohgjihccjnheabInv8
set_option linter.unusedVariables false
set_option linter.unusedSimpArgs false
namespace Go.Proofs.Ytohgjihccjnheab
open Go.RowKit

/-- Powers, as both reckon them. -/
def fpw (p : Int) (ds : List Int) (k : Nat) (o b : List Int × List Int) : List Int × List Int :=
  if h : k = 0 then o else fpw p ds (k / 2) (if k % 2 = 1 then cpr p ds o b else o) (cpr p ds b b)
termination_by k
decreasing_by omega
theorem fpw_zero (p : Int) (ds : List Int) (o b : List Int × List Int) : fpw p ds 0 o b = o := by rw [fpw, dif_pos rfl]
theorem fpw_step (p : Int) (ds : List Int) (o b : List Int × List Int) {k : Nat} (h : k ≠ 0) : fpw p ds k o b = fpw p ds (k / 2) (if k % 2 = 1 then cpr p ds o b else o) (cpr p ds b b) := by rw [fpw, dif_neg h]
theorem Rdd.opp {p : Int} {ds xs ys : List Int} (h : Rdd p ds (xs, ys)) : Rdd p ds (xs, opp p xs ys) := by
  have hp2 := h.1.pr.pos
  have h1 : Rd p ds xs ys := h.1
  refine ⟨⟨h1.pr, h1.dP, h1.dl, h1.xP, rst_Po h1.pr (addp_Po (by omega) _ _ _) h1.xP h1.ne, h1.frm.1, h1.frm.2.1, rst_lt h1.pr (addp_Po (by omega) _ _ _) h1.xP h1.ne, ?_⟩, h.2⟩
  exact rst_nil_of_cg h1.pr (addp_Po (by omega) _ _ _) h1.xP h1.ne ((sqd_neg h1.pr (opp_cg h1.pr h1.xP h1.ne)).trans (cg_of_rst_nil h1.pr h1.sP h1.xP h1.ne h1.frm.2.2.2))
/-- The base and how often it is taken. -/
def pbs (p : Int) (k : Int) (xs ys : List Int) : List Int := if k < 0 then opp p xs ys else ys
theorem pbs_Rdd {p : Int} {ds xs ys : List Int} (k : Int) (h : Rdd p ds (xs, ys)) : Rdd p ds (xs, pbs p k xs ys) := by
  unfold pbs; split
  · exact h.opp
  · exact h
section
variable {P : Program} {ops : Array Oper} {rest : List Oper} {o : Oper} {a : Act} {w : World} {Q : Exit → Act → World → Prop}
theorem built_one {T s0 s1 : Nat} {z : Array Value} (h : layout P T = some (.agg z, [(0, s0), (s0, s1)])) (v0 : Value) (h0 : v0.cells.size = s0) (hz : s0 ≤ z.size) :
    P.built T [(0, v0)] = some (v0.cells.zipIdx.foldl (fun cs (x : Value × Nat) => cs.setIfInBounds (0 + x.2) x.1) z) := by
  rw [built_layout h]
  have e0 : Value.cells (.agg z) = z := rfl
  rw [e0]
  unfold Instr.fill
  simp only [List.getElem?_toArray, List.getElem?_cons_zero]
  rw [if_neg (by simp; omega)]
  unfold Instr.fill
  rfl
theorem wpl_build_fst (hw : Region.wanted o (yielded ops a.tmps) = true) (T s0 s1 : Nat) (z : Array Value) (hl : layout P T = some (.agg z, [(0, s0), (s0, s1)])) (hz : s0 ≤ z.size) (x : Operand) (hop : o.op = .build T #[(0, x)]) (v0 : Value) (hx : a.eval x = v0)
    (h0 : v0.cells.size = s0) (cs : Array Value) (hc : v0.cells.zipIdx.foldl (fun cs (x : Value × Nat) => cs.setIfInBounds (0 + x.2) x.1) z = cs) (h : wpList P ops Q rest (a.put o.dst (.agg cs)) w) : wpList P ops Q (o :: rest) a w := by
  refine wpl_wanted hw fun K hK => ?_
  have hK := hK _ _ h
  have hb : P.built T [(0, v0)] = some cs := by rw [built_one (P := P) hl v0 h0 hz, hc]
  have hr := run_build (P := P) w T #[(0, v0)] _ hb
  unfold Oper.wp execOp
  simp [hop, hx, Sem.run_bind, hr, Oper.upon]
  exact hK
end
theorem fm_fst (f : Nat → Int) : (Value.agg (u8s 64 f)).cells.zipIdx.foldl (fun cs (x : Value × Nat) => cs.setIfInBounds (0 + x.2) x.1) (u8s 128 fun _ => 0) = u8s 128 (fmF f fun _ => 0) := by
  show (u8s 64 f).zipIdx.foldl _ _ = _
  apply Array.ext_getElem?
  intro i
  rw [fold_setA, u8s_size, u8s_size]
  by_cases h : i < 64
  · rw [if_pos (by omega), Nat.sub_zero, u8s_get _ h, u8s_get _ (by omega)]; unfold fmF; rw [if_pos h]
  · rw [if_neg (by omega)]
    by_cases h2 : i < 128
    · rw [u8s_get _ h2, u8s_get _ h2]; unfold fmF; rw [if_neg h]
    · rw [Array.getElem?_eq_none (by rw [u8s_size]; omega), Array.getElem?_eq_none (by rw [u8s_size]; omega)]

set_option maxRecDepth 20000 in
set_option maxHeartbeats 2000000 in
theorem l07Unit_any  (w : World)  :
    Calls Try.prog 29 #[] w fun e w' => e = .returned (.agg (u8s 128 (fmF (cf [1]) (cf [])))) ∧ Below w.heap.size w w' := by
  have hb := below_new w (.cells (u8s 128 fun _ => 0) 30)
  have hZ := Blk.new w (u8s 128 fun _ => 0) 30
  go_enter Try.func29, Try.ntmps29
  go_wp2_with ((with_reducible refine wpl_guard ?_); first | (refine wpl_alloc_arr rfl 30 rfl _ zForm ?_))
  refine (l01One_any _).mono ?_
  rintro e u1 ⟨rfl, hn⟩
  replace hZ := hZ.keep hn
  replace hb := below_step hb hn
  clear hn
  go_wp2_with ((with_reducible refine wpl_guard ?_); first | (refine wpl_build_fst rfl 30 64 64 _ lForm (by rw [u8s_size]; decide) _ rfl (.agg (u8s 64 (cf [1]))) rfl (u8s_size _ _) _ (fm_fst _) ?_) | (refine wpl_store_arr rfl 30 _ _ rfl _ rfl _ rfl _ _ hZ sForm (by simp only [u8s_size]) (u8s_oneCell _ _) ?_))
  exact bodyPost_ret (res_s rfl rfl (hZ.setRow_same (cs := u8s 128 (fmF (cf [1]) fun _ => 0))) tForm sForm) rfl ⟨by rw [cf_void], below_setRow hb (by omega) _⟩

end Go.Proofs.Ytohgjihccjnheab

/- What factors tell of the greatest common divisor. No program in sight. -/
import Derived.Test.YtddgbnkojdmekaaPure
set_option linter.unusedVariables false
set_option linter.unusedSimpArgs false
namespace Go.Proofs.Ytddgbnkojdmekaa
theorem divs_rest {p : Int} (hp : Pr p) {d a : List Int} (ha : Po p a) (hd : Po p d) (hne : d ≠ []) (h : Dv p (cf d) (cf a)) : (divp p a d).2 = [] := by
  have hp2 := hp.pos
  obtain ⟨q, N, hq, e⟩ := h
  exact rst_of_cg hp ha hd hne (Po_nil (by omega)) (List.length_pos_iff.2 hne) ((Cg.of_eqp e).trans ((Cg.of_mul hq).trans (Cg.of_eqp (Eqp.of_eq cf_nil_zero.symm))))
theorem divs_sum {p : Int} (hp : Pr p) {d u v a b : List Int} (h : BezOk p a b d u v) : addp p (mulp p u a) (mulp p v b) 1 = d := by
  have hp2 := hp.pos
  refine (addp_Po (by omega) _ _ _).eq_of_eqp h.pd ((addp_eqp p _ _ 1).trans (Eqp.trans ?_ h.id.symm))
  refine Eqp.add (mulp_eqp p u a) ?_
  refine Eqp.trans (Eqp.of_eq ?_) (mulp_eqp p v b)
  funext n
  exact Int.one_mul _
end Go.Proofs.Ytddgbnkojdmekaa

/- What the action of a polynomial makes of a residue, in two ways of reckoning. No program in sight. -/
import Derived.Test.YtionaenmjndncabPure
set_option linter.unusedVariables false
set_option linter.unusedSimpArgs false
namespace Go.Proofs.Ytionaenmjndncab

theorem powp_Po {p : Int} (hp : Pr p) {a m : List Int} (ha : Po p a) (hm : Po p m) (hne : m ≠ []) (k : Nat) : Po p (powp p a k m) ∧ (powp p a k m).length < m.length := by
  unfold powp
  have h1 := one_Po hp.pos.1
  exact pwl_Po hp hm hne k _ _ (rst_Po hp h1 hm hne) (rst_lt hp h1 hm hne) (rst_Po hp ha hm hne) (rst_lt hp ha hm hne)
/-- One step, as the program reckons; as the reference reckons. -/
def stp (p : Int) (m x : List Int) : List Int := rst p (addp p (mulp p [0, 1] x) (powp p x p.toNat m) 1) m
def stpS (p : Int) (m x : List Int) : List Int := addp p (mulmod p (rst p [0, 1] m) x m) (powp p x p.toNat m) 1
theorem stpS_ok {p : Int} (hp : Pr p) {m x : List Int} (hx : Po p x) (hm : Po p m) (hne : m ≠ []) : Po p (stpS p m x) ∧ (stpS p m x).length < m.length := by
  have hp2 := hp.pos
  have h1 := mulmod_lt hp (a := rst p [0, 1] m) (b := x) hm hne
  have h2 := (powp_Po hp hx hm hne p.toNat).2
  have h3 := addp_length p (mulmod p (rst p [0, 1] m) x m) (powp p x p.toNat m) 1
  exact ⟨addp_Po (by omega) _ _ _, by unfold stpS; omega⟩
theorem stp_eq {p : Int} (hp : Pr p) {m x : List Int} (hx : Po p x) (hm : Po p m) (hne : m ≠ []) : stp p m x = stpS p m x := by
  have hp2 := hp.pos
  refine rst_of_cg hp (addp_Po (by omega) _ _ _) hm hne (stpS_ok hp hx hm hne).1 (stpS_ok hp hx hm hne).2 ?_
  have hT := letter_Po hp2.1
  refine (Cg.of_eqp (addp_eqp p _ _ 1)).trans (Cg.trans ?_ (Cg.of_eqp (addp_eqp p _ _ 1).symm))
  rw [psmul_one]
  refine Cg.add ?_ (Cg.refl _)
  refine (Cg.of_eqp (mulp_eqp p _ _)).trans (Cg.trans ?_ (mulmod_cg hp hm hne).symm)
  exact Cg.mul_right (cf_Fin0 x) (rst_cg hp hT hm hne)
/-- The action: coefficients one behind the other. -/
def acl (p : Int) (m : List Int) : List Int → List Int → List Int → List Int
  | [], _, out => out
  | c :: cs, x, out => acl p m cs (stp p m x) (addp p out x c)
theorem stp_ok {p : Int} (hp : Pr p) {m x : List Int} (hx : Po p x) (hm : Po p m) (hne : m ≠ []) : Po p (stp p m x) ∧ (stp p m x).length < m.length := by
  rw [stp_eq hp hx hm hne]; exact stpS_ok hp hx hm hne
/-- What has been made of x, and what is summed up, behind k coefficients. -/
def stpN (p : Int) (m x : List Int) : Nat → List Int
  | 0 => x
  | k + 1 => stp p m (stpN p m x k)
def aclN (p : Int) (m a x : List Int) : Nat → List Int
  | 0 => []
  | k + 1 => addp p (aclN p m a x k) (stpN p m x k) (cf a k)
theorem stpN_ok {p : Int} (hp : Pr p) {m x : List Int} (hx : Po p x) (hl : x.length < m.length) (hm : Po p m) (hne : m ≠ []) : ∀ k, Po p (stpN p m x k) ∧ (stpN p m x k).length < m.length
  | 0 => ⟨hx, hl⟩
  | k + 1 => stp_ok hp (stpN_ok hp hx hl hm hne k).1 hm hne
theorem aclN_ok {p : Int} (hp : Pr p) {m a x : List Int} (hx : Po p x) (hl : x.length < m.length) (hm : Po p m) (hne : m ≠ []) : ∀ k, Po p (aclN p m a x k) ∧ (aclN p m a x k).length < m.length
  | 0 => ⟨Po_nil (by have := hp.pos; omega), List.length_pos_iff.2 hne⟩
  | k + 1 => by
    have h1 := aclN_ok (a := a) hp hx hl hm hne k
    have h2 := stpN_ok hp hx hl hm hne k
    have h3 := addp_length p (aclN p m a x k) (stpN p m x k) (cf a k)
    exact ⟨addp_Po (by have := hp.pos; omega) _ _ _, by show (addp p _ _ _).length < _; omega⟩
end Go.Proofs.Ytionaenmjndncab

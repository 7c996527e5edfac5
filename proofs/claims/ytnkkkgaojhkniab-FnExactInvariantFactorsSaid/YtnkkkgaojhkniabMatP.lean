/- A matrix leads vectors; a polynomial leads vectors, in two ways of reckoning. No program in sight. -/
import Derived.Test.YtnkkkgaojhkniabPure
set_option linter.unusedVariables false
set_option linter.unusedSimpArgs false
namespace Go.Proofs.Ytnkkkgaojhkniab

/-- Behind k entries. -/
def ledN (p : Int) (M : Nat → List Int) (v : List Int) : Nat → List Int
  | 0 => []
  | k + 1 => addp p (ledN p M v k) (M k) (cf v k)
def led (p : Int) (M : Nat → List Int) (v : List Int) : List Int := ledN p M v v.length
theorem ledN_Po {p : Int} (hp : 2 ≤ p) (M : Nat → List Int) (v : List Int) : ∀ k, Po p (ledN p M v k)
  | 0 => Po_nil (by omega)
  | k + 1 => addp_Po (by omega) _ _ _
theorem ledN_len {p : Int} {M : Nat → List Int} {n : Nat} (hM : ∀ i, (M i).length ≤ n) (v : List Int) : ∀ k, (ledN p M v k).length ≤ n
  | 0 => by simp [ledN]
  | k + 1 => by
    have h1 := addp_length p (ledN p M v k) (M k) (cf v k)
    have h2 := ledN_len (p := p) hM v k
    have h3 := hM k
    show (addp p _ _ _).length ≤ n
    omega
/-- The sum that a matrix makes. -/
def ledS (M : Nat → List Int) (v : PS) (k : Nat) : PS := fun j => sumN k (fun i => v i * cf (M i) j)
theorem ledN_eqp (p : Int) (M : Nat → List Int) (v : List Int) : ∀ k, Eqp p (cf (ledN p M v k)) (ledS M (cf v) k)
  | 0 => by unfold ledN; rw [cf_nil_zero]; exact Eqp.of_eq (by funext j; rfl)
  | k + 1 => by
    refine (addp_eqp p _ _ _).trans ?_
    exact (Eqp.add (ledN_eqp p M v k) (Eqp.refl _)).trans (Eqp.of_eq (by funext j; rfl))
theorem ledS_ge {M : Nat → List Int} {v : PS} {k n : Nat} (hv : Fin0 v k) (h : k ≤ n) : ledS M v n = ledS M v k := by
  funext j; exact sumN_ge h fun i hi => by rw [hv i hi, Int.zero_mul]
theorem ledS_add (M : Nat → List Int) (v u : PS) (t : Int) (k : Nat) : ledS M (padd v (psmul t u)) k = padd (ledS M v k) (psmul t (ledS M u k)) := by
  funext j
  show sumN k (fun i => (v i + t * u i) * cf (M i) j) = sumN k _ + t * sumN k _
  rw [← sumN_mul, ← sumN_add]
  exact sumN_congr fun i _ => by rw [Int.add_mul, Int.mul_assoc]
theorem ledS_eqp {p : Int} {M : Nat → List Int} {v u : PS} (h : Eqp p v u) (k : Nat) : Eqp p (ledS M v k) (ledS M u k) := fun j => sumN_emod fun i _ => emod_mul_congr (h i) rfl
theorem led_eqp (p : Int) (M : Nat → List Int) {v : List Int} {n : Nat} (h : v.length ≤ n) : Eqp p (cf (led p M v)) (ledS M (cf v) n) := by
  rw [ledS_ge (cf_Fin0 v) h]; exact ledN_eqp p M v _
theorem led_Po {p : Int} (hp : 2 ≤ p) (M : Nat → List Int) (v : List Int) : Po p (led p M v) := ledN_Po hp M v _
theorem led_len {p : Int} {M : Nat → List Int} {n : Nat} (hM : ∀ i, (M i).length ≤ n) (v : List Int) : (led p M v).length ≤ n := ledN_len hM v _
/-- A sum is led to the sum. -/
theorem led_addp {p : Int} (hp : 2 ≤ p) (M : Nat → List Int) (v u : List Int) (t : Int) : led p M (addp p v u t) = addp p (led p M v) (led p M u) t := by
  refine (led_Po hp M _).eq_of_eqp (addp_Po (by omega) _ _ _) ?_
  have hl := addp_length p v u t
  have h1 := led_eqp p M (v := v) (n := max v.length u.length) (by omega)
  have h2 := led_eqp p M (v := u) (n := max v.length u.length) (by omega)
  refine (led_eqp p M hl).trans ((ledS_eqp (addp_eqp p v u t) _).trans ?_)
  rw [ledS_add]
  refine Eqp.trans ?_ (addp_eqp p _ _ t).symm
  exact Eqp.add h1.symm (Eqp.smul h2.symm)
theorem led_nil (p : Int) (M : Nat → List Int) : led p M [] = [] := rfl

/-- From the top: as the reference reckons. -/
def horL (p : Int) (M : Nat → List Int) (v : List Int) : List Int → List Int
  | [] => []
  | c :: cs => addp p (led p M (horL p M v cs)) v c
/-- From below: as the program reckons. -/
def lpw (p : Int) (M : Nat → List Int) (v : List Int) : Nat → List Int
  | 0 => v
  | k + 1 => led p M (lpw p M v k)
def aplN (p : Int) (M : Nat → List Int) (a v : List Int) : Nat → List Int
  | 0 => []
  | k + 1 => addp p (aplN p M a v k) (lpw p M v k) (cf a k)
theorem lpw_shift (p : Int) (M : Nat → List Int) (v : List Int) : ∀ k, lpw p M (led p M v) k = lpw p M v (k + 1)
  | 0 => rfl
  | k + 1 => by show led p M (lpw p M (led p M v) k) = led p M (lpw p M v (k + 1)); rw [lpw_shift p M v k]
theorem lpw_Po {p : Int} (hp : 2 ≤ p) {M : Nat → List Int} {v : List Int} (hv : Po p v) : ∀ k, Po p (lpw p M v k)
  | 0 => hv
  | k + 1 => led_Po hp M _
theorem lpw_len {p : Int} {M : Nat → List Int} {n : Nat} (hM : ∀ i, (M i).length ≤ n) {v : List Int} (hv : v.length ≤ n) : ∀ k, (lpw p M v k).length ≤ n
  | 0 => hv
  | k + 1 => led_len hM _
theorem aplN_Po {p : Int} (hp : 2 ≤ p) (M : Nat → List Int) (a v : List Int) : ∀ k, Po p (aplN p M a v k)
  | 0 => Po_nil (by omega)
  | k + 1 => addp_Po (by omega) _ _ _
theorem aplN_len {p : Int} {M : Nat → List Int} {n : Nat} (hM : ∀ i, (M i).length ≤ n) (a : List Int) {v : List Int} (hv : v.length ≤ n) : ∀ k, (aplN p M a v k).length ≤ n
  | 0 => by simp [aplN]
  | k + 1 => by
    have h1 := addp_length p (aplN p M a v k) (lpw p M v k) (cf a k)
    have h2 := aplN_len (p := p) hM a hv k
    have h3 := lpw_len (p := p) hM hv k
    show (addp p _ _ _).length ≤ n
    omega
/-- What is summed up, as sequences. -/
def aplS (p : Int) (M : Nat → List Int) (v : List Int) : List Int → PS
  | [] => pzero
  | c :: cs => padd (psmul c (cf v)) (aplS p M (led p M v) cs)
theorem aplN_eqp (p : Int) (M : Nat → List Int) : ∀ (a v : List Int), Eqp p (cf (aplN p M a v a.length)) (aplS p M v a) := by
  have key : ∀ (a v : List Int) (k : Nat), Eqp p (cf (aplN p M a v k)) (fun j => sumN k (fun i => cf a i * cf (lpw p M v i) j)) := by
    intro a v k
    induction k with
    | zero => unfold aplN; rw [cf_nil_zero]; exact Eqp.of_eq (by funext j; rfl)
    | succ k ih => exact (addp_eqp p _ _ _).trans ((Eqp.add ih (Eqp.refl _)).trans (Eqp.of_eq (by funext j; rfl)))
  have key2 : ∀ (a v : List Int), aplS p M v a = fun j => sumN a.length (fun i => cf a i * cf (lpw p M v i) j) := by
    intro a
    induction a with
    | nil => intro v; rfl
    | cons c cs ih =>
      intro v
      funext j
      show c * cf v j + aplS p M (led p M v) cs j = sumN (cs.length + 1) _
      rw [ih, sumN_first, cf_cons_zero]
      congr 1
      exact sumN_congr fun i _ => by rw [cf_cons_succ, lpw_shift]
  intro a v
  rw [key2]; exact key a v a.length
theorem horL_Po {p : Int} (hp : 2 ≤ p) (M : Nat → List Int) (v : List Int) : ∀ a, Po p (horL p M v a)
  | [] => Po_nil (by omega)
  | _ :: _ => addp_Po (by omega) _ _ _
theorem horL_led {p : Int} (hp : 2 ≤ p) (M : Nat → List Int) (v : List Int) : ∀ a, horL p M (led p M v) a = led p M (horL p M v a)
  | [] => rfl
  | c :: cs => by
    show addp p (led p M (horL p M (led p M v) cs)) (led p M v) c = led p M (addp p (led p M (horL p M v cs)) v c)
    rw [horL_led hp M v cs, led_addp hp]
theorem horL_eqp {p : Int} (hp : 2 ≤ p) (M : Nat → List Int) : ∀ (a v : List Int), Eqp p (cf (horL p M v a)) (aplS p M v a)
  | [], v => by unfold horL; rw [cf_nil_zero]; exact Eqp.refl _
  | c :: cs, v => by
    show Eqp p (cf (addp p (led p M (horL p M v cs)) v c)) (padd (psmul c (cf v)) (aplS p M (led p M v) cs))
    refine (addp_eqp p _ _ _).trans ?_
    rw [← horL_led hp, padd_comm]
    exact Eqp.add (Eqp.refl _) (horL_eqp hp M cs (led p M v))
theorem apl_eq {p : Int} (hp : 2 ≤ p) (M : Nat → List Int) (a v : List Int) : aplN p M a v a.length = horL p M v a :=
  (aplN_Po hp M a v _).eq_of_eqp (horL_Po hp M v a) ((aplN_eqp p M a v).trans (horL_eqp hp M a v).symm)
theorem horL_len {p : Int} {M : Nat → List Int} {n : Nat} (hM : ∀ i, (M i).length ≤ n) {v : List Int} (hv : v.length ≤ n) : ∀ a, (horL p M v a).length ≤ n
  | [] => by simp [horL]
  | c :: cs => by
    have h1 := addp_length p (led p M (horL p M v cs)) v c
    have h2 := led_len (p := p) hM (horL p M v cs)
    show (addp p _ _ _).length ≤ n
    omega
end Go.Proofs.Ytnkkkgaojhkniab

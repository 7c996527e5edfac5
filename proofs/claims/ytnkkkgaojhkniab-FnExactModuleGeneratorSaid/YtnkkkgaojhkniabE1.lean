/- Walks: moduli, the polynomial 1, and the codes of polynomials with a modulus. -/
import Derived.Test.YtnkkkgaojhkniabSpd
import Derived.Test.YtnkkkgaojhkniabCmn
import Derived.Test.YtnkkkgaojhkniabPure
set_option linter.unusedVariables false
set_option linter.unusedSimpArgs false
namespace Go.Proofs.Ytnkkkgaojhkniab
open Go.RowKit

/-- A modulus. -/
def Mon (m : List Int) : Prop := cf m (m.length - 1) = 1 ∧ 2 ≤ m.length ∧ m.length ≤ 6
instance (m : List Int) : Decidable (Mon m) := by unfold Mon; infer_instance
/-- The code of polynomials and a modulus. -/
def modC (b c : Bool) : Int := if b then (if c then 0 else 2) else 1

end Go.Proofs.Ytnkkkgaojhkniab

/- Closed facts of the program: the types of vectors and matrices. -/
import Derived.Test.YtnkkkgaojhkniabCode
import Derived.Test.YtnkkkgaojhkniabPart
set_option linter.unusedVariables false
set_option linter.unusedSimpArgs false
namespace Go.Proofs.Ytnkkkgaojhkniab
open Go.RowKit
theorem zRow : (Try.prog.info? 28).bind (·.zero) = some (.agg (u8s 6 fun _ => 0)) := by kernel_rfl
theorem sRow : (Try.prog.info? 28).map (·.size) = some 6 := by kernel_rfl
theorem gRow : Try.prog.eqGuardType Try.prog.depth 28 = false := by kernel_rfl
theorem uRow : Try.prog.underlying 28 = some (.array 6 5) := by kernel_rfl
theorem zSquare : (Try.prog.info? 30).bind (·.zero) = some (.agg (u8s 36 fun _ => 0)) := by kernel_rfl
theorem sSquare : (Try.prog.info? 30).map (·.size) = some 36 := by kernel_rfl
theorem uSquare : Try.prog.underlying 30 = some (.array 6 28) := by kernel_rfl
theorem sArr6 : (Try.prog.info? 22).map (·.size) = some 6 := by kernel_rfl
theorem uArr6 : Try.prog.underlying 22 = some (.array 6 5) := by kernel_rfl
theorem sArr66 : (Try.prog.info? 23).map (·.size) = some 36 := by kernel_rfl
theorem uArr66 : Try.prog.underlying 23 = some (.array 6 22) := by kernel_rfl
end Go.Proofs.Ytnkkkgaojhkniab

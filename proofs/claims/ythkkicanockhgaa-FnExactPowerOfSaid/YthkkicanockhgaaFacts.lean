/- Closed facts of the program: types. -/
import Derived.Test.YthkkicanockhgaaProg
import Derived.Test.YthkkicanockhgaaOps
import Derived.KernelRfl
namespace Go.Proofs.Ythkkicanockhgaa
open Go.RowKit
theorem zPoly : (Try.prog.info? 23).bind (·.zero) = some (.agg (u8s 64 fun _ => 0)) := by kernel_rfl
theorem sPoly : (Try.prog.info? 23).map (·.size) = some 64 := by kernel_rfl
theorem sArr64 : (Try.prog.info? 22).map (·.size) = some 64 := by kernel_rfl
theorem sByte : (Try.prog.info? 5).map (·.size) = some 1 := by kernel_rfl
theorem gPoly : Try.prog.eqGuardType Try.prog.depth 23 = false := by kernel_rfl
theorem uPoly : Try.prog.underlying 23 = some (.array 64 5) := by kernel_rfl
theorem uArr64 : Try.prog.underlying 22 = some (.array 64 5) := by kernel_rfl
theorem uByte : Try.prog.underlying 5 = some (.int .u8) := by kernel_rfl
end Go.Proofs.Ythkkicanockhgaa

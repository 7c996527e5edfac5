/- FnExactConstants: the law returns true; it takes no argument and has no condition. -/
import Derived.Test.YtkkgbdgialpcaaaPFnExactConstantsx1
namespace Go.Proofs.Ytkkgbdgialpcaaa.Pure
open Go.RowKit Go.Proofs.Ytkkgbdgialpcaaa.PFnExactConstants Go.Proofs.YtkkgbdgialpcaaaW.PrintWords Go.Proofs.YtkkgbdgialpcaaaW.PrintLast

theorem FnExactConstants : laws_FnExactConstants.Pure := by
  unfold laws_FnExactConstants.Pure
  rfl

end Go.Proofs.Ytkkgbdgialpcaaa.Pure

/- Each constant of the program has the value that the reference gives it; no condition. -/
import Derived.Test.YteennikekhiedaaPFnExactConstantsx1
namespace Go.Proofs.Yteennikekhiedaa.Pure
open Go.RowKit Go.Proofs.Yteennikekhiedaa.PFnExactConstants Go.Proofs.YteennikekhiedaaW.PrintWords Go.Proofs.YteennikekhiedaaW.PrintLast

theorem FnExactConstants : laws_FnExactConstants.Pure := by
  rfl

end Go.Proofs.Yteennikekhiedaa.Pure

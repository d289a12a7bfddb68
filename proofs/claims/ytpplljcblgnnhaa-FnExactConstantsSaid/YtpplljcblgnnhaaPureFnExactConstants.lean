import Derived.Test.YtpplljcblgnnhaaPFnExactConstantsx1
namespace Go.Proofs.Ytpplljcblgnnhaa.Pure
open Go.RowKit Go.Proofs.Ytpplljcblgnnhaa.PFnExactConstants Go.Proofs.YtpplljcblgnnhaaW.PrintWords Go.Proofs.YtpplljcblgnnhaaW.PrintLast

/-- YOURS: laws_FnExactConstants.f  = some true
What it reaches (each with k first where it has rounds; `.mono`: more rounds tell the same; `.l0`, ..: its loops, with `.mono_l`): laws_FnExactConstants.f -/
theorem FnExactConstants : laws_FnExactConstants.Pure := by
  unfold laws_FnExactConstants.Pure laws_FnExactConstants.f
  rfl

end Go.Proofs.Ytpplljcblgnnhaa.Pure

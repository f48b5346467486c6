/- The law FnExactConstants, as a statement about numbers alone: it answers true. No conditions. -/
import Derived.Test.YtcpdaaoindkkgaaPFnExactConstantsx1
namespace Go.Proofs.Ytcpdaaoindkkgaa.Pure
open Go.RowKit Go.Proofs.Ytcpdaaoindkkgaa.PFnExactConstants Go.Proofs.YtcpdaaoindkkgaaW.PrintWords Go.Proofs.YtcpdaaoindkkgaaW.PrintLast

/-- YOURS: laws_FnExactConstants.f  = some true
What it reaches (each with k first where it has rounds; `.mono`: more rounds tell the same; `.l0`, ..: its loops, with `.mono_l`): laws_FnExactConstants.f -/
theorem FnExactConstants : laws_FnExactConstants.Pure := by
  rfl

end Go.Proofs.Ytcpdaaoindkkgaa.Pure

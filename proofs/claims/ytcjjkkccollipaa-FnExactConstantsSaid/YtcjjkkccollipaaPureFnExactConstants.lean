/- The law FnExactConstants answers true: each of the constants of the program has the value that the law compares it with. No conditions. -/
import Derived.Test.YtcjjkkccollipaaPFnExactConstantsx1
namespace Go.Proofs.Ytcjjkkccollipaa.Pure
open Go.RowKit Go.Proofs.Ytcjjkkccollipaa.PFnExactConstants Go.Proofs.YtcjjkkccollipaaW.PrintWords Go.Proofs.YtcjjkkccollipaaW.PrintLast

/-- YOURS: laws_FnExactConstants.f  = some true
What it reaches (each with k first where it has rounds; `.mono`: more rounds tell the same; `.l0`, ..: its loops, with `.mono_l`): laws_FnExactConstants.f -/
theorem FnExactConstants : laws_FnExactConstants.Pure := by
  rfl

end Go.Proofs.Ytcjjkkccollipaa.Pure

/-
  The range tests of the reference and of the program. No condition.
-/
import Derived.Test.YtcoecgcjpeijmaaBase
namespace Go.Proofs.Ytcoecgcjpeijmaa
open Go.ChangeShapes Go.WideShapes Go.ChangeAt Go.RowKit
set_option linter.unusedVariables false
end Go.Proofs.Ytcoecgcjpeijmaa

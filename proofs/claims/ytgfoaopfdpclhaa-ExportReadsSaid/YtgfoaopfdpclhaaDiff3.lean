/-
  The change of a key.
-/
import Derived.Test.YtgfoaopfdpclhaaDiff2
import Derived.BigRegion
namespace Go.Proofs.Ytgfoaopfdpclhaa
open Go.RowKit
set_option linter.unusedVariables false

end Go.Proofs.Ytgfoaopfdpclhaa

/-
  The walks of package host, fifth part: does a host match a domain; labels.
-/
import Derived.Test.YtgfoaopfdpclhaaHost4
namespace Go.Proofs.Ytgfoaopfdpclhaa
open Go.RowKit
set_option linter.unusedVariables false

def upP (l : List UInt8) : List UInt8 × Bool := if nameB l then match cutL l 46 with | none => ([], false) | some p => (p.2, true) else ([], false)

end Go.Proofs.Ytgfoaopfdpclhaa

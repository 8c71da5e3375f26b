/-
  Requests: their cells; a request that came in as an argument.
-/
import Derived.Test.YtgfoaopfdpclhaaRows2
import Derived.ProofKit
import Derived.OpenShut
namespace Go.Proofs.Ytgfoaopfdpclhaa
open Go.RowKit Go.Deep Go.WideShapes
set_option linter.unusedVariables false

/-- A request: its host, its path, is it secure, and a script's? -/
structure Rq where
  h : List UInt8
  p : List UInt8
  s : Bool
  c : Bool
deriving DecidableEq
def rqC (r : Rq) : Array Value := #[.string (S r.h), .string (S r.p), .bool r.s, .bool r.c]
abbrev rqV (r : Rq) : Value := .agg (rqC r)
def rq0 : Rq := ⟨[], [], false, false⟩
section
variable {H : Type} {enc : TypeId × Value → H} {w : World} {base : Nat} {spare : Nat → Bool} {held : Bool}
end
end Go.Proofs.Ytgfoaopfdpclhaa

/-
  Plain words: is a cookie right?
-/
import Derived.Test.YtgfoaopfdpclhaaCanonP
import Derived.Test.YtgfoaopfdpclhaaItem
namespace Go.Proofs.Ytgfoaopfdpclhaa
open Go.RowKit
set_option linter.unusedVariables false

def plainB (s : List UInt8) (most : Int) (signs : List UInt8) : Bool := decide ((s.length : Int) ≤ most) && (!(s.any ctlB) && ((trimL s == s) && signs.all fun c => (cutL s c).isNone))
def inB (n a b : Int) : Bool := decide (a ≤ n) && decide (n ≤ b)
def timeR (c : Ck) : Bool := inB c.ex (-1099511627776) 1099511627776 && (inB c.cr 0 1099511627776 && (inB c.ac 0 1099511627776 && (c.pe || c.ex == 1099511627776)))
/-- Is a cookie right? -/
def rightI (x : It) : Bool := !(x.k.n == []) && (plainB x.k.n 256 [59, 61] && (plainB x.c.v 1024 [59] && (canonB x.k.d && (!(x.k.p == []) && (x.k.p.getD 0 0 == 47 && (decide (x.k.p.length ≤ 256) && timeR x.c))))))
end Go.Proofs.Ytgfoaopfdpclhaa

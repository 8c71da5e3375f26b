/-
  Changes and items in rows; do items stand by rising keys?
-/
import Derived.Test.YtgfoaopfdpclhaaDiffP
import Derived.IntWalk
namespace Go.Proofs.Ytgfoaopfdpclhaa
open Go.RowKit
set_option linter.unusedVariables false

theorem kyAt_later {w w1 : World} {b o : Nat} {k : Ky} (h : kyAt w b o = some k) (hb : Below w.heap.size w w1) : kyAt w1 b o = some k := rdAt_kept hb (ky_lt h) h
theorem itAt_later {w w1 : World} {b o : Nat} {k : It} (h : itAt w b o = some k) (hb : Below w.heap.size w w1) : itAt w1 b o = some k := rdAt_kept hb (it_lt h) h
theorem ky_drew {w : World} {b o : Nat} {k : Ky} (h : kyAt w b o = some k) : kyAt w.drew b o = some k := by rw [kyAt_drew]; exact h
theorem it_drew {w : World} {b o : Nat} {k : It} (h : itAt w b o = some k) : itAt w.drew b o = some k := by rw [itAt_drew]; exact h
theorem bel_drew {W w w1 : World} (h : Below W.heap.size W w) (hb : Below w.drew.heap.size w.drew w1) : Below W.heap.size W w1 := bel_call h.drew hb

end Go.Proofs.Ytgfoaopfdpclhaa

/-
  The program answers: a date parsed and printed.
-/
import Derived.Test.YtagiolhciplniaaDoorDate12
namespace Go.Proofs.YtagiolhciplniaaDoor
open Go.RowKit
set_option linter.unusedVariables false

def sampleL : List UInt8 := [83, 117, 110, 44, 32, 48, 54, 32, 78, 111, 118, 32, 49, 57, 57, 52, 32, 48, 56, 58, 52, 57, 58, 51, 55, 32, 71, 77, 84]
theorem sample_parse : dateT sampleL = (784111777, 0) := by decide +kernel
theorem sample_text : timeT 784111777 = (sampleL, 0) := by decide +kernel

set_option maxRecDepth 4000 in
set_option maxHeartbeats 2000000 in
theorem awake07_any (w : World) (hm : Mon w) :
    Calls Tryd.prog 14 #[] w fun e w' => e = .returned (.bool true) ∧ Below w.heap.size w w' := by
  have hp := Lib.hid sample_parse
  have ht := Lib.hid sample_text
  go_enter Tryd.func14, Tryd.ntmps14
  go_wp2_with fail
  refine (parseA_any (S sampleL) _ (by decide) hm).mono ?_
  rintro e w1 ⟨rfl, hb1⟩
  rw [S_toList, hp.out]
  have hm1 := hm.next hb1
  go_wp2_with fail
  refine (textA_any 784111777 _ (by decide) (by decide) hm1).mono ?_
  rintro e w2 ⟨rfl, hb2⟩
  rw [ht.out]
  have hb := bel_call hb1 hb2
  go_wp2
  go_ret
  exact ⟨rfl, hb⟩
end Go.Proofs.YtagiolhciplniaaDoor

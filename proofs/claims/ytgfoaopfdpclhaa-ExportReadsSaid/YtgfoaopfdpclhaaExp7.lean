/-
  The walk: does the program answer at all?
-/
import Derived.Test.YtgfoaopfdpclhaaExp5
namespace Go.Proofs.Ytgfoaopfdpclhaa
open Go.RowKit
set_option linter.unusedVariables false

def awI : It := ⟨⟨[97], [120, 46, 116, 101, 115, 116], [47]⟩, ⟨[49], true, false, false, false, 1099511627776, 0, 0⟩⟩
def awL : List UInt8 := [120, 46, 116, 101, 115, 116, 9, 70, 65, 76, 83, 69, 9, 47, 9, 70, 65, 76, 83, 69, 9, 45, 9, 97, 9, 49]
@[go_sem] theorem build_aw (w : World) : (mkI #[(0, vK ⟨[97], [120, 46, 116, 101, 115, 116], [47]⟩), (1, .agg #[.string ⟨#[49]⟩, .bool true, .bool false, .bool false, .bool false, .int .i64 1099511627776, .int .i64 0, .int .i64 0])]).run Try.prog w = .ok (vI awI) w := build_it w awI.k awI.c
theorem aw_line : lineO awI = some awL := by decide +kernel
set_option maxHeartbeats 2000000 in
set_option maxRecDepth 20000 in
theorem awake_any (w : World) : Calls Try.prog 8 #[] w fun e w' => e = .returned (.bool true) ∧ Below w.heap.size w w' := by
  have h1 := (lineS_some aw_line).1
  have h2 := (lineS_some aw_line).2
  go_enter Try.func8, Try.ntmps8
  go_wp2_with fail
  refine (line_any awI _ ⟨by decide, by decide, by decide, by decide⟩).mono ?_
  rintro e w1 ⟨rfl, hb1⟩
  rw [h1, h2]
  go_wp2
  go_ret
  exact ⟨rfl, hb1⟩
end Go.Proofs.Ytgfoaopfdpclhaa

/-
  The walks of package date, fourth part: a full year.
-/
import Derived.Test.YtagiolhciplniaaDoorDate3
namespace Go.Proofs.YtagiolhciplniaaDoor
open Go.RowKit
set_option linter.unusedVariables false

def fullI (y : Int) : Int := if y < 70 then y + 2000 else if y < 100 then y + 1900 else y

set_option maxHeartbeats 1000000 in
theorem full_any (y : Int) (w : World) (h1 : 0 ≤ y) (h2 : y ≤ 9999) :
    Calls Tryd.prog 36 #[.int .i64 y] w fun e w' => e = .returned (.int .i64 (fullI y)) ∧ w = w' := by
  go_enter Tryd.func36, Tryd.ntmps36
  go_wp2
  all_goals
    go_ret
    refine ⟨ret_int ?_, rfl⟩
    unfold fullI
    first
      | rw [if_pos (by omega)]
      | rw [if_neg (by omega), if_pos (by omega)]
      | rw [if_neg (by omega), if_neg (by omega)]

/-- The parts of a text between delimiters. -/
def tokGo : List UInt8 → List UInt8 → List (List UInt8)
  | cur, [] => if cur.isEmpty then [] else [cur]
  | cur, c :: r => if delimB c then (if cur.isEmpty then tokGo [] r else cur :: tokGo [] r) else tokGo (cur ++ [c]) r
def tokensL (l : List UInt8) : List (List UInt8) := tokGo [] l
end Go.Proofs.YtagiolhciplniaaDoor

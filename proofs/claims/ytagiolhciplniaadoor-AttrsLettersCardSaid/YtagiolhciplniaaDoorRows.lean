/-
  NARROWER THAN 'FOR EVERY INPUT', by the rows' own cells (each row's printed sentence says how): DateDays: laid · DateCivil: laid · DateParses: laid · DateTexts: laid · DateLeaps: laid · AttrsReads: laid · AttrsExpire: laid · AttrsLast: laid · AttrsLetters: laid.
  DERIVED. THE GIVEN ROWS OF THIS SEAT. 9 by the template 'for every input the law returns true; each argument reads behind the call as it read before'; 0 by the template 'total and deterministic' (their statements: YtagiolhciplniaaDoorTotals.lean).
  GIVEN WITH THE SEED: the statements are not yours to turn. If you find one false, say at which input.
  Laid BY PROGRAM, IN A SANDBOX (cutbox-rows.mjs): the forced cells as the released guide's own fill.sh prints them over the translation 536b7c4da54dc088… (all of the seat's roots in one cut). By AI agents, Wed Nov 11 2026. No macro, syntax, notation, axiom, sorry.
-/
import Derived.Test.YtagiolhciplniaaDoorChecked
import GoSem.Claim
import GoSem.ClaimJoined
import GoSem.ClaimMapViews
import Derived.JoinedTies
import Derived.KernelRfl
namespace Go.Proofs.YtagiolhciplniaaDoor
/- THE CELL 'sum', in the pinned program and in every row, IS THE sha256 OF THE DUMP (.gsa) THAT YtagiolhciplniaaDoorProg.lean LOADS. Nothing in Lean hashes anything: it is a label: what it is worth is what the hold of that sum in a sandbox is worth. -/
noncomputable def Tryd.pinned : Pinned := { name := "ytagiolhciplniaadoor", sum := "536b7c4da54dc0881f24b41d88e82633e6099c645b9e1c4ce1c71e092fc4da4f", checked := Tryd.checked }
namespace Rows
def none {H : Type} : Left H := { results := [], args := [] }

/- WHAT THE LISTED PACKAGE-LEVEL VARIABLES READ AS WHEN THE CALL BEGINS. Each datum BY PROGRAM (the guide's laid-datum.mjs) off the statement by which the dump's own 'gosem.cut.vars' lays the variable. In a bare row this is a premise. The card (YtagiolhciplniaaDoorCards.lean) ties it to the program's text. -/
def laid_biscotti_date_months {H : Type} : DataW H := .agg [.lit (.string [106, 97, 110]), .lit (.string [102, 101, 98]), .lit (.string [109, 97, 114]), .lit (.string [97, 112, 114]), .lit (.string [109, 97, 121]), .lit (.string [106, 117, 110]), .lit (.string [106, 117, 108]), .lit (.string [97, 117, 103]), .lit (.string [115, 101, 112]), .lit (.string [111, 99, 116]), .lit (.string [110, 111, 118]), .lit (.string [100, 101, 99])]

/-- 'biscottilaw07.DateDays': WHATEVER THE INPUT: true; the input reads as it did. -/
def dateDaysSpec : ChangeSpec := { name := "dateDays", fn := fun _ => fun
  | [d1, d2, d3] => { results := [.lit (.bool true)], args := [d1, d2, d3] }
  | _ => none }
def dateDaysRow : OpenClaim := { program := "ytagiolhciplniaadoor", sum := "536b7c4da54dc0881f24b41d88e82633e6099c645b9e1c4ce1c71e092fc4da4f", func := "biscotti/biscottilaw07.DateDays", spec := "dateDays", named := ["biscotti/date.months"], apart := false, laid := [("biscotti/date.months", laid_biscotti_date_months)] }
def DateDaysSaid : Prop := dateDaysRow.holds Tryd.pinned (OpenSpec.ofChange dateDaysSpec)

/-- ITS FALSE NEIGHBOUR: 'it returns false'. Refute it at one input. -/
def dateDaysWrong : ChangeSpec := { name := "dateDays", fn := fun _ => fun
  | [d1, d2, d3] => { results := [.lit (.bool false)], args := [d1, d2, d3] }
  | _ => none }
def DateDaysWrongFalsely : Prop := dateDaysRow.holds Tryd.pinned (OpenSpec.ofChange dateDaysWrong)

/-- 'biscottilaw07.DateCivil': WHATEVER THE INPUT: true; the input reads as it did. -/
def dateCivilSpec : ChangeSpec := { name := "dateCivil", fn := fun _ => fun
  | [d] => { results := [.lit (.bool true)], args := [d] }
  | _ => none }
def dateCivilRow : OpenClaim := { program := "ytagiolhciplniaadoor", sum := "536b7c4da54dc0881f24b41d88e82633e6099c645b9e1c4ce1c71e092fc4da4f", func := "biscotti/biscottilaw07.DateCivil", spec := "dateCivil", named := ["biscotti/date.months"], apart := false, laid := [("biscotti/date.months", laid_biscotti_date_months)] }
def DateCivilSaid : Prop := dateCivilRow.holds Tryd.pinned (OpenSpec.ofChange dateCivilSpec)

/-- ITS FALSE NEIGHBOUR: 'it returns false'. Refute it at one input. -/
def dateCivilWrong : ChangeSpec := { name := "dateCivil", fn := fun _ => fun
  | [d] => { results := [.lit (.bool false)], args := [d] }
  | _ => none }
def DateCivilWrongFalsely : Prop := dateCivilRow.holds Tryd.pinned (OpenSpec.ofChange dateCivilWrong)

/-- 'biscottilaw07.DateParses': WHATEVER THE INPUT: true; the input reads as it did. -/
def dateParsesSpec : ChangeSpec := { name := "dateParses", fn := fun _ => fun
  | [d] => { results := [.lit (.bool true)], args := [d] }
  | _ => none }
def dateParsesRow : OpenClaim := { program := "ytagiolhciplniaadoor", sum := "536b7c4da54dc0881f24b41d88e82633e6099c645b9e1c4ce1c71e092fc4da4f", func := "biscotti/biscottilaw07.DateParses", spec := "dateParses", named := ["biscotti/date.months"], apart := false, laid := [("biscotti/date.months", laid_biscotti_date_months)] }
def DateParsesSaid : Prop := dateParsesRow.holds Tryd.pinned (OpenSpec.ofChange dateParsesSpec)

/-- ITS FALSE NEIGHBOUR: 'it returns false'. Refute it at one input. -/
def dateParsesWrong : ChangeSpec := { name := "dateParses", fn := fun _ => fun
  | [d] => { results := [.lit (.bool false)], args := [d] }
  | _ => none }
def DateParsesWrongFalsely : Prop := dateParsesRow.holds Tryd.pinned (OpenSpec.ofChange dateParsesWrong)

/-- 'biscottilaw07.DateTexts': WHATEVER THE INPUT: true; the input reads as it did. -/
def dateTextsSpec : ChangeSpec := { name := "dateTexts", fn := fun _ => fun
  | [d] => { results := [.lit (.bool true)], args := [d] }
  | _ => none }
def dateTextsRow : OpenClaim := { program := "ytagiolhciplniaadoor", sum := "536b7c4da54dc0881f24b41d88e82633e6099c645b9e1c4ce1c71e092fc4da4f", func := "biscotti/biscottilaw07.DateTexts", spec := "dateTexts", named := ["biscotti/date.months"], apart := false, laid := [("biscotti/date.months", laid_biscotti_date_months)] }
def DateTextsSaid : Prop := dateTextsRow.holds Tryd.pinned (OpenSpec.ofChange dateTextsSpec)

/-- ITS FALSE NEIGHBOUR: 'it returns false'. Refute it at one input. -/
def dateTextsWrong : ChangeSpec := { name := "dateTexts", fn := fun _ => fun
  | [d] => { results := [.lit (.bool false)], args := [d] }
  | _ => none }
def DateTextsWrongFalsely : Prop := dateTextsRow.holds Tryd.pinned (OpenSpec.ofChange dateTextsWrong)

/-- 'biscottilaw07.DateLeaps': WHATEVER THE INPUT: true; the input reads as it did. -/
def dateLeapsSpec : ChangeSpec := { name := "dateLeaps", fn := fun _ => fun
  | [d] => { results := [.lit (.bool true)], args := [d] }
  | _ => none }
def dateLeapsRow : OpenClaim := { program := "ytagiolhciplniaadoor", sum := "536b7c4da54dc0881f24b41d88e82633e6099c645b9e1c4ce1c71e092fc4da4f", func := "biscotti/biscottilaw07.DateLeaps", spec := "dateLeaps", named := ["biscotti/date.months"], apart := false, laid := [("biscotti/date.months", laid_biscotti_date_months)] }
def DateLeapsSaid : Prop := dateLeapsRow.holds Tryd.pinned (OpenSpec.ofChange dateLeapsSpec)

/-- ITS FALSE NEIGHBOUR: 'it returns false'. Refute it at one input. -/
def dateLeapsWrong : ChangeSpec := { name := "dateLeaps", fn := fun _ => fun
  | [d] => { results := [.lit (.bool false)], args := [d] }
  | _ => none }
def DateLeapsWrongFalsely : Prop := dateLeapsRow.holds Tryd.pinned (OpenSpec.ofChange dateLeapsWrong)

/-- 'biscottilaw13.AttrsReads': WHATEVER THE INPUT: true; the input reads as it did. -/
def attrsReadsSpec : ChangeSpec := { name := "attrsReads", fn := fun _ => fun
  | [d] => { results := [.lit (.bool true)], args := [d] }
  | _ => none }
def attrsReadsRow : OpenClaim := { program := "ytagiolhciplniaadoor", sum := "536b7c4da54dc0881f24b41d88e82633e6099c645b9e1c4ce1c71e092fc4da4f", func := "biscotti/biscottilaw13.AttrsReads", spec := "attrsReads", unfollowed := true, recurses := true, named := ["biscotti/date.months"], apart := false, laid := [("biscotti/date.months", laid_biscotti_date_months)] }
def AttrsReadsSaid : Prop := attrsReadsRow.holds Tryd.pinned (OpenSpec.ofChange attrsReadsSpec)

/-- ITS FALSE NEIGHBOUR: 'it returns false'. Refute it at one input. -/
def attrsReadsWrong : ChangeSpec := { name := "attrsReads", fn := fun _ => fun
  | [d] => { results := [.lit (.bool false)], args := [d] }
  | _ => none }
def AttrsReadsWrongFalsely : Prop := attrsReadsRow.holds Tryd.pinned (OpenSpec.ofChange attrsReadsWrong)

/-- 'biscottilaw13.AttrsExpire': WHATEVER THE INPUT: true; the input reads as it did. -/
def attrsExpireSpec : ChangeSpec := { name := "attrsExpire", fn := fun _ => fun
  | [d1, d2] => { results := [.lit (.bool true)], args := [d1, d2] }
  | _ => none }
def attrsExpireRow : OpenClaim := { program := "ytagiolhciplniaadoor", sum := "536b7c4da54dc0881f24b41d88e82633e6099c645b9e1c4ce1c71e092fc4da4f", func := "biscotti/biscottilaw13.AttrsExpire", spec := "attrsExpire", unfollowed := true, recurses := true, named := ["biscotti/date.months"], apart := false, laid := [("biscotti/date.months", laid_biscotti_date_months)] }
def AttrsExpireSaid : Prop := attrsExpireRow.holds Tryd.pinned (OpenSpec.ofChange attrsExpireSpec)

/-- ITS FALSE NEIGHBOUR: 'it returns false'. Refute it at one input. -/
def attrsExpireWrong : ChangeSpec := { name := "attrsExpire", fn := fun _ => fun
  | [d1, d2] => { results := [.lit (.bool false)], args := [d1, d2] }
  | _ => none }
def AttrsExpireWrongFalsely : Prop := attrsExpireRow.holds Tryd.pinned (OpenSpec.ofChange attrsExpireWrong)

/-- 'biscottilaw13.AttrsLast': WHATEVER THE INPUT: true; the input reads as it did. -/
def attrsLastSpec : ChangeSpec := { name := "attrsLast", fn := fun _ => fun
  | [d] => { results := [.lit (.bool true)], args := [d] }
  | _ => none }
def attrsLastRow : OpenClaim := { program := "ytagiolhciplniaadoor", sum := "536b7c4da54dc0881f24b41d88e82633e6099c645b9e1c4ce1c71e092fc4da4f", func := "biscotti/biscottilaw13.AttrsLast", spec := "attrsLast", unfollowed := true, recurses := true, named := ["biscotti/date.months"], apart := false, laid := [("biscotti/date.months", laid_biscotti_date_months)] }
def AttrsLastSaid : Prop := attrsLastRow.holds Tryd.pinned (OpenSpec.ofChange attrsLastSpec)

/-- ITS FALSE NEIGHBOUR: 'it returns false'. Refute it at one input. -/
def attrsLastWrong : ChangeSpec := { name := "attrsLast", fn := fun _ => fun
  | [d] => { results := [.lit (.bool false)], args := [d] }
  | _ => none }
def AttrsLastWrongFalsely : Prop := attrsLastRow.holds Tryd.pinned (OpenSpec.ofChange attrsLastWrong)

/-- 'biscottilaw13.AttrsLetters': WHATEVER THE INPUT: true; the input reads as it did. -/
def attrsLettersSpec : ChangeSpec := { name := "attrsLetters", fn := fun _ => fun
  | [d] => { results := [.lit (.bool true)], args := [d] }
  | _ => none }
def attrsLettersRow : OpenClaim := { program := "ytagiolhciplniaadoor", sum := "536b7c4da54dc0881f24b41d88e82633e6099c645b9e1c4ce1c71e092fc4da4f", func := "biscotti/biscottilaw13.AttrsLetters", spec := "attrsLetters", unfollowed := true, recurses := true, named := ["biscotti/date.months"], apart := false, laid := [("biscotti/date.months", laid_biscotti_date_months)] }
def AttrsLettersSaid : Prop := attrsLettersRow.holds Tryd.pinned (OpenSpec.ofChange attrsLettersSpec)

/-- ITS FALSE NEIGHBOUR: 'it returns false'. Refute it at one input. -/
def attrsLettersWrong : ChangeSpec := { name := "attrsLetters", fn := fun _ => fun
  | [d] => { results := [.lit (.bool false)], args := [d] }
  | _ => none }
def AttrsLettersWrongFalsely : Prop := attrsLettersRow.holds Tryd.pinned (OpenSpec.ofChange attrsLettersWrong)

/- THE SECOND FORM. 'bulk': how many values and letters a reading holds, each counted each time it is reached (what is shared counts as often as it is met; a slice's spare places count too). A statement '..UptoSaid' is the law's where the arguments, and the package variables that the reading takes, are together of bulk at most 1048576: NARROWER than '..Said'. Prove '..Said' where nothing that the law and all that it calls make is longer than what came in: it says more and counts as full. Else prove '..UptoSaid'. A law counts once. -/
mutual
def uptoBulk {H : Type} : DataW H → Nat
  | .lit (.string bytes) => bytes.length + 1
  | .lit _ => 1
  | .nil => 1
  | .ptr d => uptoBulk d + 1
  | .slice elems spare => uptoBulkAll elems + uptoBulkAll spare + 1
  | .agg parts => uptoBulkAll parts + 1
  | .iface _ d => uptoBulk d + 1
  | .map entries => uptoBulkEntries entries + 1
  | .held _ => 1
def uptoBulkAll {H : Type} : List (DataW H) → Nat
  | [] => 0
  | d :: r => uptoBulk d + uptoBulkAll r
def uptoBulkEntries {H : Type} : List (Lit × DataW H) → Nat
  | [] => 0
  | x :: r => uptoBulkEntry x + uptoBulkEntries r
def uptoBulkEntry {H : Type} : Lit × DataW H → Nat
  | (.string bytes, d) => bytes.length + uptoBulk d + 1
  | (_, d) => uptoBulk d + 1
 end
def uptoSmall : (H : Type) → List (DataW H) → Bool := fun _ ds => decide (uptoBulkAll ds ≤ 1048576)
def OpenSpec.upto (s : _root_.Go.ChangeSpec) : _root_.Go.OpenSpec := { _root_.Go.OpenSpec.ofChange s with cond := some uptoSmall }

/-- 'biscottilaw07.DateDays', WHERE WHAT IT READS IS OF BULK AT MOST 1048576: true; the input reads as it did. -/
def dateDaysUptoRow : OpenClaim := { program := "ytagiolhciplniaadoor", sum := "536b7c4da54dc0881f24b41d88e82633e6099c645b9e1c4ce1c71e092fc4da4f", func := "biscotti/biscottilaw07.DateDays", spec := "dateDays", named := ["biscotti/date.months"], apart := false, laid := [("biscotti/date.months", laid_biscotti_date_months)], narrowed := true }
def DateDaysUptoSaid : Prop := dateDaysUptoRow.holds Tryd.pinned (OpenSpec.upto dateDaysSpec)

/-- 'biscottilaw07.DateCivil', WHERE WHAT IT READS IS OF BULK AT MOST 1048576: true; the input reads as it did. -/
def dateCivilUptoRow : OpenClaim := { program := "ytagiolhciplniaadoor", sum := "536b7c4da54dc0881f24b41d88e82633e6099c645b9e1c4ce1c71e092fc4da4f", func := "biscotti/biscottilaw07.DateCivil", spec := "dateCivil", named := ["biscotti/date.months"], apart := false, laid := [("biscotti/date.months", laid_biscotti_date_months)], narrowed := true }
def DateCivilUptoSaid : Prop := dateCivilUptoRow.holds Tryd.pinned (OpenSpec.upto dateCivilSpec)

/-- 'biscottilaw07.DateParses', WHERE WHAT IT READS IS OF BULK AT MOST 1048576: true; the input reads as it did. -/
def dateParsesUptoRow : OpenClaim := { program := "ytagiolhciplniaadoor", sum := "536b7c4da54dc0881f24b41d88e82633e6099c645b9e1c4ce1c71e092fc4da4f", func := "biscotti/biscottilaw07.DateParses", spec := "dateParses", named := ["biscotti/date.months"], apart := false, laid := [("biscotti/date.months", laid_biscotti_date_months)], narrowed := true }
def DateParsesUptoSaid : Prop := dateParsesUptoRow.holds Tryd.pinned (OpenSpec.upto dateParsesSpec)

/-- 'biscottilaw07.DateTexts', WHERE WHAT IT READS IS OF BULK AT MOST 1048576: true; the input reads as it did. -/
def dateTextsUptoRow : OpenClaim := { program := "ytagiolhciplniaadoor", sum := "536b7c4da54dc0881f24b41d88e82633e6099c645b9e1c4ce1c71e092fc4da4f", func := "biscotti/biscottilaw07.DateTexts", spec := "dateTexts", named := ["biscotti/date.months"], apart := false, laid := [("biscotti/date.months", laid_biscotti_date_months)], narrowed := true }
def DateTextsUptoSaid : Prop := dateTextsUptoRow.holds Tryd.pinned (OpenSpec.upto dateTextsSpec)

/-- 'biscottilaw07.DateLeaps', WHERE WHAT IT READS IS OF BULK AT MOST 1048576: true; the input reads as it did. -/
def dateLeapsUptoRow : OpenClaim := { program := "ytagiolhciplniaadoor", sum := "536b7c4da54dc0881f24b41d88e82633e6099c645b9e1c4ce1c71e092fc4da4f", func := "biscotti/biscottilaw07.DateLeaps", spec := "dateLeaps", named := ["biscotti/date.months"], apart := false, laid := [("biscotti/date.months", laid_biscotti_date_months)], narrowed := true }
def DateLeapsUptoSaid : Prop := dateLeapsUptoRow.holds Tryd.pinned (OpenSpec.upto dateLeapsSpec)

/-- 'biscottilaw13.AttrsReads', WHERE WHAT IT READS IS OF BULK AT MOST 1048576: true; the input reads as it did. -/
def attrsReadsUptoRow : OpenClaim := { program := "ytagiolhciplniaadoor", sum := "536b7c4da54dc0881f24b41d88e82633e6099c645b9e1c4ce1c71e092fc4da4f", func := "biscotti/biscottilaw13.AttrsReads", spec := "attrsReads", unfollowed := true, recurses := true, named := ["biscotti/date.months"], apart := false, laid := [("biscotti/date.months", laid_biscotti_date_months)], narrowed := true }
def AttrsReadsUptoSaid : Prop := attrsReadsUptoRow.holds Tryd.pinned (OpenSpec.upto attrsReadsSpec)

/-- 'biscottilaw13.AttrsExpire', WHERE WHAT IT READS IS OF BULK AT MOST 1048576: true; the input reads as it did. -/
def attrsExpireUptoRow : OpenClaim := { program := "ytagiolhciplniaadoor", sum := "536b7c4da54dc0881f24b41d88e82633e6099c645b9e1c4ce1c71e092fc4da4f", func := "biscotti/biscottilaw13.AttrsExpire", spec := "attrsExpire", unfollowed := true, recurses := true, named := ["biscotti/date.months"], apart := false, laid := [("biscotti/date.months", laid_biscotti_date_months)], narrowed := true }
def AttrsExpireUptoSaid : Prop := attrsExpireUptoRow.holds Tryd.pinned (OpenSpec.upto attrsExpireSpec)

/-- 'biscottilaw13.AttrsLast', WHERE WHAT IT READS IS OF BULK AT MOST 1048576: true; the input reads as it did. -/
def attrsLastUptoRow : OpenClaim := { program := "ytagiolhciplniaadoor", sum := "536b7c4da54dc0881f24b41d88e82633e6099c645b9e1c4ce1c71e092fc4da4f", func := "biscotti/biscottilaw13.AttrsLast", spec := "attrsLast", unfollowed := true, recurses := true, named := ["biscotti/date.months"], apart := false, laid := [("biscotti/date.months", laid_biscotti_date_months)], narrowed := true }
def AttrsLastUptoSaid : Prop := attrsLastUptoRow.holds Tryd.pinned (OpenSpec.upto attrsLastSpec)

/-- 'biscottilaw13.AttrsLetters', WHERE WHAT IT READS IS OF BULK AT MOST 1048576: true; the input reads as it did. -/
def attrsLettersUptoRow : OpenClaim := { program := "ytagiolhciplniaadoor", sum := "536b7c4da54dc0881f24b41d88e82633e6099c645b9e1c4ce1c71e092fc4da4f", func := "biscotti/biscottilaw13.AttrsLetters", spec := "attrsLetters", unfollowed := true, recurses := true, named := ["biscotti/date.months"], apart := false, laid := [("biscotti/date.months", laid_biscotti_date_months)], narrowed := true }
def AttrsLettersUptoSaid : Prop := attrsLettersUptoRow.holds Tryd.pinned (OpenSpec.upto attrsLettersSpec)

end Rows
end Go.Proofs.YtagiolhciplniaaDoor

/-
  DERIVED. GIVEN WITH THE SEED: THE CARDS: each row of YtagiolhciplniaaDoorRows.lean that lists a variable, with what it lists TIED to the program's text (the seventh form; the later family's looks); each row that meets fmt, with fmt's text TOLD by the authors' own Lean function (tested against real Go, not proved from fmt's source: count such statements apart). THE CARD IS WHAT COUNTS. Prove the row's statement (the work); the ties are given (YtagiolhciplniaaDoorTie.lean); close each card by the builder's one call (the guide's Derived/Test/ToyasCard.lean, 'card_holds'). Laid BY PROGRAM, IN A SANDBOX (cutbox-door.mjs). By AI agents, Wed Nov 11 2026. No macro, syntax, notation, axiom, sorry.
-/
import Derived.Test.YtagiolhciplniaaDoorRows
import GoSem.ClaimSeven
namespace Go.Proofs.YtagiolhciplniaaDoor
namespace Rows

/-- THE TIED CARD OF 'biscottilaw07.DateDays'. -/
def dateDaysCard : Claim7 := { stood := { row := dateDaysRow, standIns := [], harness := (true, "c50b96b72f5d34d1db2b9b85f4861b556f30cac7eef9e272797f5ea9b0ef3ef7"), looks := false }, kinds := [], alts := [], laidByText := true, laidKinds := [.data], laidTests := true, laidLooks := .later }
def DateDaysCardSaid : Prop := Claim7.holds Tryd.pinned (.plain (OpenSpec.ofChange dateDaysSpec)) dateDaysCard

/-- THE TIED CARD OF 'biscottilaw07.DateCivil'. -/
def dateCivilCard : Claim7 := { stood := { row := dateCivilRow, standIns := [], harness := (true, "c50b96b72f5d34d1db2b9b85f4861b556f30cac7eef9e272797f5ea9b0ef3ef7"), looks := false }, kinds := [], alts := [], laidByText := true, laidKinds := [.data], laidTests := true, laidLooks := .later }
def DateCivilCardSaid : Prop := Claim7.holds Tryd.pinned (.plain (OpenSpec.ofChange dateCivilSpec)) dateCivilCard

/-- THE TIED CARD OF 'biscottilaw07.DateParses'. -/
def dateParsesCard : Claim7 := { stood := { row := dateParsesRow, standIns := [], harness := (true, "c50b96b72f5d34d1db2b9b85f4861b556f30cac7eef9e272797f5ea9b0ef3ef7"), looks := false }, kinds := [], alts := [], laidByText := true, laidKinds := [.data], laidTests := true, laidLooks := .later }
def DateParsesCardSaid : Prop := Claim7.holds Tryd.pinned (.plain (OpenSpec.ofChange dateParsesSpec)) dateParsesCard

/-- THE TIED CARD OF 'biscottilaw07.DateTexts'. -/
def dateTextsCard : Claim7 := { stood := { row := dateTextsRow, standIns := [], harness := (true, "c50b96b72f5d34d1db2b9b85f4861b556f30cac7eef9e272797f5ea9b0ef3ef7"), looks := false }, kinds := [], alts := [], laidByText := true, laidKinds := [.data], laidTests := true, laidLooks := .later }
def DateTextsCardSaid : Prop := Claim7.holds Tryd.pinned (.plain (OpenSpec.ofChange dateTextsSpec)) dateTextsCard

/-- THE TIED CARD OF 'biscottilaw07.DateLeaps'. -/
def dateLeapsCard : Claim7 := { stood := { row := dateLeapsRow, standIns := [], harness := (true, "c50b96b72f5d34d1db2b9b85f4861b556f30cac7eef9e272797f5ea9b0ef3ef7"), looks := false }, kinds := [], alts := [], laidByText := true, laidKinds := [.data], laidTests := true, laidLooks := .later }
def DateLeapsCardSaid : Prop := Claim7.holds Tryd.pinned (.plain (OpenSpec.ofChange dateLeapsSpec)) dateLeapsCard

/-- THE TIED CARD OF 'biscottilaw13.AttrsReads'. -/
def attrsReadsCard : Claim7 := { stood := { row := attrsReadsRow, standIns := [], harness := (true, "c50b96b72f5d34d1db2b9b85f4861b556f30cac7eef9e272797f5ea9b0ef3ef7"), looks := false }, kinds := [], alts := [], laidByText := true, laidKinds := [.data], laidTests := true, laidLooks := .later }
def AttrsReadsCardSaid : Prop := Claim7.holds Tryd.pinned (.plain (OpenSpec.ofChange attrsReadsSpec)) attrsReadsCard

/-- THE TIED CARD OF 'biscottilaw13.AttrsExpire'. -/
def attrsExpireCard : Claim7 := { stood := { row := attrsExpireRow, standIns := [], harness := (true, "c50b96b72f5d34d1db2b9b85f4861b556f30cac7eef9e272797f5ea9b0ef3ef7"), looks := false }, kinds := [], alts := [], laidByText := true, laidKinds := [.data], laidTests := true, laidLooks := .later }
def AttrsExpireCardSaid : Prop := Claim7.holds Tryd.pinned (.plain (OpenSpec.ofChange attrsExpireSpec)) attrsExpireCard

/-- THE TIED CARD OF 'biscottilaw13.AttrsLast'. -/
def attrsLastCard : Claim7 := { stood := { row := attrsLastRow, standIns := [], harness := (true, "c50b96b72f5d34d1db2b9b85f4861b556f30cac7eef9e272797f5ea9b0ef3ef7"), looks := false }, kinds := [], alts := [], laidByText := true, laidKinds := [.data], laidTests := true, laidLooks := .later }
def AttrsLastCardSaid : Prop := Claim7.holds Tryd.pinned (.plain (OpenSpec.ofChange attrsLastSpec)) attrsLastCard

/-- THE TIED CARD OF 'biscottilaw13.AttrsLetters'. -/
def attrsLettersCard : Claim7 := { stood := { row := attrsLettersRow, standIns := [], harness := (true, "c50b96b72f5d34d1db2b9b85f4861b556f30cac7eef9e272797f5ea9b0ef3ef7"), looks := false }, kinds := [], alts := [], laidByText := true, laidKinds := [.data], laidTests := true, laidLooks := .later }
def AttrsLettersCardSaid : Prop := Claim7.holds Tryd.pinned (.plain (OpenSpec.ofChange attrsLettersSpec)) attrsLettersCard

/-- THE SECOND FORM's CARD OF 'biscottilaw07.DateDays'. -/
def dateDaysUptoCard : Claim7 := { stood := { row := dateDaysUptoRow, standIns := [], harness := (true, "c50b96b72f5d34d1db2b9b85f4861b556f30cac7eef9e272797f5ea9b0ef3ef7"), looks := false }, kinds := [], alts := [], laidByText := true, laidKinds := [.data], laidTests := true, laidLooks := .later }
def DateDaysUptoCardSaid : Prop := Claim7.holds Tryd.pinned (.plain (OpenSpec.upto dateDaysSpec)) dateDaysUptoCard

/-- THE SECOND FORM's CARD OF 'biscottilaw07.DateCivil'. -/
def dateCivilUptoCard : Claim7 := { stood := { row := dateCivilUptoRow, standIns := [], harness := (true, "c50b96b72f5d34d1db2b9b85f4861b556f30cac7eef9e272797f5ea9b0ef3ef7"), looks := false }, kinds := [], alts := [], laidByText := true, laidKinds := [.data], laidTests := true, laidLooks := .later }
def DateCivilUptoCardSaid : Prop := Claim7.holds Tryd.pinned (.plain (OpenSpec.upto dateCivilSpec)) dateCivilUptoCard

/-- THE SECOND FORM's CARD OF 'biscottilaw07.DateParses'. -/
def dateParsesUptoCard : Claim7 := { stood := { row := dateParsesUptoRow, standIns := [], harness := (true, "c50b96b72f5d34d1db2b9b85f4861b556f30cac7eef9e272797f5ea9b0ef3ef7"), looks := false }, kinds := [], alts := [], laidByText := true, laidKinds := [.data], laidTests := true, laidLooks := .later }
def DateParsesUptoCardSaid : Prop := Claim7.holds Tryd.pinned (.plain (OpenSpec.upto dateParsesSpec)) dateParsesUptoCard

/-- THE SECOND FORM's CARD OF 'biscottilaw07.DateTexts'. -/
def dateTextsUptoCard : Claim7 := { stood := { row := dateTextsUptoRow, standIns := [], harness := (true, "c50b96b72f5d34d1db2b9b85f4861b556f30cac7eef9e272797f5ea9b0ef3ef7"), looks := false }, kinds := [], alts := [], laidByText := true, laidKinds := [.data], laidTests := true, laidLooks := .later }
def DateTextsUptoCardSaid : Prop := Claim7.holds Tryd.pinned (.plain (OpenSpec.upto dateTextsSpec)) dateTextsUptoCard

/-- THE SECOND FORM's CARD OF 'biscottilaw07.DateLeaps'. -/
def dateLeapsUptoCard : Claim7 := { stood := { row := dateLeapsUptoRow, standIns := [], harness := (true, "c50b96b72f5d34d1db2b9b85f4861b556f30cac7eef9e272797f5ea9b0ef3ef7"), looks := false }, kinds := [], alts := [], laidByText := true, laidKinds := [.data], laidTests := true, laidLooks := .later }
def DateLeapsUptoCardSaid : Prop := Claim7.holds Tryd.pinned (.plain (OpenSpec.upto dateLeapsSpec)) dateLeapsUptoCard

/-- THE SECOND FORM's CARD OF 'biscottilaw13.AttrsReads'. -/
def attrsReadsUptoCard : Claim7 := { stood := { row := attrsReadsUptoRow, standIns := [], harness := (true, "c50b96b72f5d34d1db2b9b85f4861b556f30cac7eef9e272797f5ea9b0ef3ef7"), looks := false }, kinds := [], alts := [], laidByText := true, laidKinds := [.data], laidTests := true, laidLooks := .later }
def AttrsReadsUptoCardSaid : Prop := Claim7.holds Tryd.pinned (.plain (OpenSpec.upto attrsReadsSpec)) attrsReadsUptoCard

/-- THE SECOND FORM's CARD OF 'biscottilaw13.AttrsExpire'. -/
def attrsExpireUptoCard : Claim7 := { stood := { row := attrsExpireUptoRow, standIns := [], harness := (true, "c50b96b72f5d34d1db2b9b85f4861b556f30cac7eef9e272797f5ea9b0ef3ef7"), looks := false }, kinds := [], alts := [], laidByText := true, laidKinds := [.data], laidTests := true, laidLooks := .later }
def AttrsExpireUptoCardSaid : Prop := Claim7.holds Tryd.pinned (.plain (OpenSpec.upto attrsExpireSpec)) attrsExpireUptoCard

/-- THE SECOND FORM's CARD OF 'biscottilaw13.AttrsLast'. -/
def attrsLastUptoCard : Claim7 := { stood := { row := attrsLastUptoRow, standIns := [], harness := (true, "c50b96b72f5d34d1db2b9b85f4861b556f30cac7eef9e272797f5ea9b0ef3ef7"), looks := false }, kinds := [], alts := [], laidByText := true, laidKinds := [.data], laidTests := true, laidLooks := .later }
def AttrsLastUptoCardSaid : Prop := Claim7.holds Tryd.pinned (.plain (OpenSpec.upto attrsLastSpec)) attrsLastUptoCard

/-- THE SECOND FORM's CARD OF 'biscottilaw13.AttrsLetters'. -/
def attrsLettersUptoCard : Claim7 := { stood := { row := attrsLettersUptoRow, standIns := [], harness := (true, "c50b96b72f5d34d1db2b9b85f4861b556f30cac7eef9e272797f5ea9b0ef3ef7"), looks := false }, kinds := [], alts := [], laidByText := true, laidKinds := [.data], laidTests := true, laidLooks := .later }
def AttrsLettersUptoCardSaid : Prop := Claim7.holds Tryd.pinned (.plain (OpenSpec.upto attrsLettersSpec)) attrsLettersUptoCard
end Rows
end Go.Proofs.YtagiolhciplniaaDoor

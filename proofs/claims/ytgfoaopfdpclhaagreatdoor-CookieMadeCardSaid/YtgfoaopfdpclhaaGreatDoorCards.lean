/-
  DERIVED. GIVEN WITH THE SEED: THE CARDS: each row of YtgfoaopfdpclhaaGreatDoorRows.lean that lists a variable, with what it lists TIED to the program's text (the seventh form; the later family's looks); each row that meets fmt, with fmt's text TOLD by the authors' own Lean function (tested against real Go, not proved from fmt's source: count such statements apart). THE CARD IS WHAT COUNTS. Prove the row's statement (the work); the ties are given (YtgfoaopfdpclhaaGreatDoorTie.lean); close each card by the builder's one call (the guide's Derived/Test/ToyasCard.lean, 'card_holds'). Laid BY PROGRAM, IN A SANDBOX (cutbox-door.mjs). By AI agents, Wed Nov 11 2026. No macro, syntax, notation, axiom, sorry.
-/
import Derived.Test.YtgfoaopfdpclhaaGreatDoorRows
import GoSem.ClaimSeven
namespace Go.Proofs.YtgfoaopfdpclhaaGreatDoor
namespace Rows

/-- THE TIED CARD OF 'biscottilaw14.CookieMakes'. -/
def cookieMakesCard : Claim7 := { stood := { row := cookieMakesRow, standIns := [], harness := (true, "7fb50aab88927ffc5e86d4bc25581fa44aeb75815efa823527753e22138bc149"), looks := false }, kinds := [], alts := [], laidByText := true, laidKinds := [.data], laidTests := true, laidLooks := .later }
def CookieMakesCardSaid : Prop := Claim7.holds Tryz.pinned (.plain (OpenSpec.ofChange cookieMakesSpec)) cookieMakesCard

/-- THE TIED CARD OF 'biscottilaw14.CookieRight'. -/
def cookieRightCard : Claim7 := { stood := { row := cookieRightRow, standIns := [], harness := (true, "7fb50aab88927ffc5e86d4bc25581fa44aeb75815efa823527753e22138bc149"), looks := false }, kinds := [], alts := [], laidByText := true, laidKinds := [.data], laidTests := true, laidLooks := .later }
def CookieRightCardSaid : Prop := Claim7.holds Tryz.pinned (.plain (OpenSpec.ofChange cookieRightSpec)) cookieRightCard

/-- THE TIED CARD OF 'biscottilaw14.CookieMade'. -/
def cookieMadeCard : Claim7 := { stood := { row := cookieMadeRow, standIns := [], harness := (true, "7fb50aab88927ffc5e86d4bc25581fa44aeb75815efa823527753e22138bc149"), looks := false }, kinds := [], alts := [], laidByText := true, laidKinds := [.data], laidTests := true, laidLooks := .later }
def CookieMadeCardSaid : Prop := Claim7.holds Tryz.pinned (.plain (OpenSpec.ofChange cookieMadeSpec)) cookieMadeCard

/-- THE TIED CARD OF 'biscottilaw14.CookieSuffix'. -/
def cookieSuffixCard : Claim7 := { stood := { row := cookieSuffixRow, standIns := [], harness := (true, "7fb50aab88927ffc5e86d4bc25581fa44aeb75815efa823527753e22138bc149"), looks := false }, kinds := [], alts := [], laidByText := true, laidKinds := [.data], laidTests := true, laidLooks := .later }
def CookieSuffixCardSaid : Prop := Claim7.holds Tryz.pinned (.plain (OpenSpec.ofChange cookieSuffixSpec)) cookieSuffixCard

/-- THE SECOND FORM's CARD OF 'biscottilaw14.CookieMakes'. -/
def cookieMakesUptoCard : Claim7 := { stood := { row := cookieMakesUptoRow, standIns := [], harness := (true, "7fb50aab88927ffc5e86d4bc25581fa44aeb75815efa823527753e22138bc149"), looks := false }, kinds := [], alts := [], laidByText := true, laidKinds := [.data], laidTests := true, laidLooks := .later }
def CookieMakesUptoCardSaid : Prop := Claim7.holds Tryz.pinned (.plain (OpenSpec.upto cookieMakesSpec)) cookieMakesUptoCard

/-- THE SECOND FORM's CARD OF 'biscottilaw14.CookieRight'. -/
def cookieRightUptoCard : Claim7 := { stood := { row := cookieRightUptoRow, standIns := [], harness := (true, "7fb50aab88927ffc5e86d4bc25581fa44aeb75815efa823527753e22138bc149"), looks := false }, kinds := [], alts := [], laidByText := true, laidKinds := [.data], laidTests := true, laidLooks := .later }
def CookieRightUptoCardSaid : Prop := Claim7.holds Tryz.pinned (.plain (OpenSpec.upto cookieRightSpec)) cookieRightUptoCard

/-- THE SECOND FORM's CARD OF 'biscottilaw14.CookieMade'. -/
def cookieMadeUptoCard : Claim7 := { stood := { row := cookieMadeUptoRow, standIns := [], harness := (true, "7fb50aab88927ffc5e86d4bc25581fa44aeb75815efa823527753e22138bc149"), looks := false }, kinds := [], alts := [], laidByText := true, laidKinds := [.data], laidTests := true, laidLooks := .later }
def CookieMadeUptoCardSaid : Prop := Claim7.holds Tryz.pinned (.plain (OpenSpec.upto cookieMadeSpec)) cookieMadeUptoCard

/-- THE SECOND FORM's CARD OF 'biscottilaw14.CookieSuffix'. -/
def cookieSuffixUptoCard : Claim7 := { stood := { row := cookieSuffixUptoRow, standIns := [], harness := (true, "7fb50aab88927ffc5e86d4bc25581fa44aeb75815efa823527753e22138bc149"), looks := false }, kinds := [], alts := [], laidByText := true, laidKinds := [.data], laidTests := true, laidLooks := .later }
def CookieSuffixUptoCardSaid : Prop := Claim7.holds Tryz.pinned (.plain (OpenSpec.upto cookieSuffixSpec)) cookieSuffixUptoCard
end Rows
end Go.Proofs.YtgfoaopfdpclhaaGreatDoor

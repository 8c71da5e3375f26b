/-
  NARROWER THAN 'FOR EVERY INPUT', by the rows' own cells (each row's printed sentence says how): CookieMakes: laid · CookieRight: laid · CookieMade: laid · CookieSuffix: laid.
  DERIVED. THE GIVEN ROWS OF THIS SEAT. 4 by the template 'for every input the law returns true; each argument reads behind the call as it read before'; 0 by the template 'total and deterministic' (their statements: YtgfoaopfdpclhaaGreatDoorTotals.lean).
  GIVEN WITH THE SEED: the statements are not yours to turn. If you find one false, say at which input.
  Laid BY PROGRAM, IN A SANDBOX (cutbox-rows.mjs): the forced cells as the released guide's own fill.sh prints them over the translation 280f0d32295f11c0… (all of the seat's roots in one cut). By AI agents, Wed Nov 11 2026. No macro, syntax, notation, axiom, sorry.
-/
import Derived.Test.YtgfoaopfdpclhaaGreatDoorChecked
import GoSem.Claim
import GoSem.ClaimJoined
import GoSem.ClaimMapViews
import Derived.JoinedTies
import Derived.KernelRfl
namespace Go.Proofs.YtgfoaopfdpclhaaGreatDoor
/- THE CELL 'sum', in the pinned program and in every row, IS THE sha256 OF THE DUMP (.gsa) THAT YtgfoaopfdpclhaaGreatDoorProg.lean LOADS. Nothing in Lean hashes anything: it is a label: what it is worth is what the hold of that sum in a sandbox is worth. -/
noncomputable def Tryz.pinned : Pinned := { name := "ytgfoaopfdpclhaagreatdoor", sum := "280f0d32295f11c0dd1e4593954aeb18bcaa764e71fa970f4710ecdbaa95136c", checked := Tryz.checked }
namespace Rows
def none {H : Type} : Left H := { results := [], args := [] }

/- WHAT THE LISTED PACKAGE-LEVEL VARIABLES READ AS WHEN THE CALL BEGINS. Each datum BY PROGRAM (the guide's laid-datum.mjs) off the statement by which the dump's own 'gosem.cut.vars' lays the variable. In a bare row this is a premise. The card (YtgfoaopfdpclhaaGreatDoorCards.lean) ties it to the program's text. -/
def laid_biscotti_date_months {H : Type} : DataW H := .agg [.lit (.string [106, 97, 110]), .lit (.string [102, 101, 98]), .lit (.string [109, 97, 114]), .lit (.string [97, 112, 114]), .lit (.string [109, 97, 121]), .lit (.string [106, 117, 110]), .lit (.string [106, 117, 108]), .lit (.string [97, 117, 103]), .lit (.string [115, 101, 112]), .lit (.string [111, 99, 116]), .lit (.string [110, 111, 118]), .lit (.string [100, 101, 99])]

/-- 'biscottilaw14.CookieMakes': WHATEVER THE INPUT: true; the input reads as it did. -/
def cookieMakesSpec : ChangeSpec := { name := "cookieMakes", fn := fun _ => fun
  | [d1, d2] => { results := [.lit (.bool true)], args := [d1, d2] }
  | _ => none }
def cookieMakesRow : OpenClaim := { program := "ytgfoaopfdpclhaagreatdoor", sum := "280f0d32295f11c0dd1e4593954aeb18bcaa764e71fa970f4710ecdbaa95136c", func := "biscotti/biscottilaw14.CookieMakes", spec := "cookieMakes", inPlace := ["internal/bytealg.IndexByteString", "internal/bytealg.IndexString", "internal/bytealg.CountString"], unfollowed := true, recurses := true, named := ["biscotti/date.months", "internal/bytealg.MaxLen"], apart := false, laid := [("biscotti/date.months", laid_biscotti_date_months)] }
def CookieMakesSaid : Prop := cookieMakesRow.holds Tryz.pinned (OpenSpec.ofChange cookieMakesSpec)

/-- ITS FALSE NEIGHBOUR: 'it returns false'. Refute it at one input. -/
def cookieMakesWrong : ChangeSpec := { name := "cookieMakes", fn := fun _ => fun
  | [d1, d2] => { results := [.lit (.bool false)], args := [d1, d2] }
  | _ => none }
def CookieMakesWrongFalsely : Prop := cookieMakesRow.holds Tryz.pinned (OpenSpec.ofChange cookieMakesWrong)

/-- 'biscottilaw14.CookieRight': WHATEVER THE INPUT: true; the input reads as it did. -/
def cookieRightSpec : ChangeSpec := { name := "cookieRight", fn := fun _ => fun
  | [d] => { results := [.lit (.bool true)], args := [d] }
  | _ => none }
def cookieRightRow : OpenClaim := { program := "ytgfoaopfdpclhaagreatdoor", sum := "280f0d32295f11c0dd1e4593954aeb18bcaa764e71fa970f4710ecdbaa95136c", func := "biscotti/biscottilaw14.CookieRight", spec := "cookieRight", inPlace := ["internal/bytealg.IndexByteString", "internal/bytealg.IndexString", "internal/bytealg.CountString"], unfollowed := true, recurses := true, named := ["biscotti/date.months", "internal/bytealg.MaxLen"], apart := false, laid := [("biscotti/date.months", laid_biscotti_date_months)] }
def CookieRightSaid : Prop := cookieRightRow.holds Tryz.pinned (OpenSpec.ofChange cookieRightSpec)

/-- ITS FALSE NEIGHBOUR: 'it returns false'. Refute it at one input. -/
def cookieRightWrong : ChangeSpec := { name := "cookieRight", fn := fun _ => fun
  | [d] => { results := [.lit (.bool false)], args := [d] }
  | _ => none }
def CookieRightWrongFalsely : Prop := cookieRightRow.holds Tryz.pinned (OpenSpec.ofChange cookieRightWrong)

/-- 'biscottilaw14.CookieMade': WHATEVER THE INPUT: true; the input reads as it did. -/
def cookieMadeSpec : ChangeSpec := { name := "cookieMade", fn := fun _ => fun
  | [d1, d2] => { results := [.lit (.bool true)], args := [d1, d2] }
  | _ => none }
def cookieMadeRow : OpenClaim := { program := "ytgfoaopfdpclhaagreatdoor", sum := "280f0d32295f11c0dd1e4593954aeb18bcaa764e71fa970f4710ecdbaa95136c", func := "biscotti/biscottilaw14.CookieMade", spec := "cookieMade", inPlace := ["internal/bytealg.IndexByteString", "internal/bytealg.IndexString", "internal/bytealg.CountString"], unfollowed := true, recurses := true, named := ["biscotti/date.months", "internal/bytealg.MaxLen"], apart := false, laid := [("biscotti/date.months", laid_biscotti_date_months)] }
def CookieMadeSaid : Prop := cookieMadeRow.holds Tryz.pinned (OpenSpec.ofChange cookieMadeSpec)

/-- ITS FALSE NEIGHBOUR: 'it returns false'. Refute it at one input. -/
def cookieMadeWrong : ChangeSpec := { name := "cookieMade", fn := fun _ => fun
  | [d1, d2] => { results := [.lit (.bool false)], args := [d1, d2] }
  | _ => none }
def CookieMadeWrongFalsely : Prop := cookieMadeRow.holds Tryz.pinned (OpenSpec.ofChange cookieMadeWrong)

/-- 'biscottilaw14.CookieSuffix': WHATEVER THE INPUT: true; the input reads as it did. -/
def cookieSuffixSpec : ChangeSpec := { name := "cookieSuffix", fn := fun _ => fun
  | [d1, d2] => { results := [.lit (.bool true)], args := [d1, d2] }
  | _ => none }
def cookieSuffixRow : OpenClaim := { program := "ytgfoaopfdpclhaagreatdoor", sum := "280f0d32295f11c0dd1e4593954aeb18bcaa764e71fa970f4710ecdbaa95136c", func := "biscotti/biscottilaw14.CookieSuffix", spec := "cookieSuffix", inPlace := ["internal/bytealg.IndexByteString", "internal/bytealg.IndexString", "internal/bytealg.CountString"], unfollowed := true, recurses := true, named := ["biscotti/date.months", "internal/bytealg.MaxLen"], apart := false, laid := [("biscotti/date.months", laid_biscotti_date_months)] }
def CookieSuffixSaid : Prop := cookieSuffixRow.holds Tryz.pinned (OpenSpec.ofChange cookieSuffixSpec)

/-- ITS FALSE NEIGHBOUR: 'it returns false'. Refute it at one input. -/
def cookieSuffixWrong : ChangeSpec := { name := "cookieSuffix", fn := fun _ => fun
  | [d1, d2] => { results := [.lit (.bool false)], args := [d1, d2] }
  | _ => none }
def CookieSuffixWrongFalsely : Prop := cookieSuffixRow.holds Tryz.pinned (OpenSpec.ofChange cookieSuffixWrong)

/- THE SECOND FORM. 'bulk': how many values and letters a reading holds, each counted each time it is reached (what is shared counts as often as it is met; a slice's spare places count too). A statement '..UptoSaid' is the law's where the arguments, and the package variables that the reading takes, are together of bulk at most 1048576: NARROWER than '..Said'. Prove '..Said' where nothing that the law and all that it calls make is longer than what came in: it says more and counts as full. Else prove '..UptoSaid'. A law counts once. -/
mutual
def uptoBulk {H : Type} : DataW H → Nat
  | .lit (.string bytes) => bytes.length + 1
  | .lit _ => 1
  | .nil => 1
  | .ptr d => uptoBulk d + 1
  | .slice elems spare => uptoBulkAll elems + uptoBulkAll spare + 1
  | .agg parts => uptoBulkAll parts + 1
  | .iface _ d => uptoBulk d + 1
  | .map entries => uptoBulkEntries entries + 1
  | .held _ => 1
def uptoBulkAll {H : Type} : List (DataW H) → Nat
  | [] => 0
  | d :: r => uptoBulk d + uptoBulkAll r
def uptoBulkEntries {H : Type} : List (Lit × DataW H) → Nat
  | [] => 0
  | x :: r => uptoBulkEntry x + uptoBulkEntries r
def uptoBulkEntry {H : Type} : Lit × DataW H → Nat
  | (.string bytes, d) => bytes.length + uptoBulk d + 1
  | (_, d) => uptoBulk d + 1
 end
def uptoSmall : (H : Type) → List (DataW H) → Bool := fun _ ds => decide (uptoBulkAll ds ≤ 1048576)
def OpenSpec.upto (s : _root_.Go.ChangeSpec) : _root_.Go.OpenSpec := { _root_.Go.OpenSpec.ofChange s with cond := some uptoSmall }

/-- 'biscottilaw14.CookieMakes', WHERE WHAT IT READS IS OF BULK AT MOST 1048576: true; the input reads as it did. -/
def cookieMakesUptoRow : OpenClaim := { program := "ytgfoaopfdpclhaagreatdoor", sum := "280f0d32295f11c0dd1e4593954aeb18bcaa764e71fa970f4710ecdbaa95136c", func := "biscotti/biscottilaw14.CookieMakes", spec := "cookieMakes", inPlace := ["internal/bytealg.IndexByteString", "internal/bytealg.IndexString", "internal/bytealg.CountString"], unfollowed := true, recurses := true, named := ["biscotti/date.months", "internal/bytealg.MaxLen"], apart := false, laid := [("biscotti/date.months", laid_biscotti_date_months)], narrowed := true }
def CookieMakesUptoSaid : Prop := cookieMakesUptoRow.holds Tryz.pinned (OpenSpec.upto cookieMakesSpec)

/-- 'biscottilaw14.CookieRight', WHERE WHAT IT READS IS OF BULK AT MOST 1048576: true; the input reads as it did. -/
def cookieRightUptoRow : OpenClaim := { program := "ytgfoaopfdpclhaagreatdoor", sum := "280f0d32295f11c0dd1e4593954aeb18bcaa764e71fa970f4710ecdbaa95136c", func := "biscotti/biscottilaw14.CookieRight", spec := "cookieRight", inPlace := ["internal/bytealg.IndexByteString", "internal/bytealg.IndexString", "internal/bytealg.CountString"], unfollowed := true, recurses := true, named := ["biscotti/date.months", "internal/bytealg.MaxLen"], apart := false, laid := [("biscotti/date.months", laid_biscotti_date_months)], narrowed := true }
def CookieRightUptoSaid : Prop := cookieRightUptoRow.holds Tryz.pinned (OpenSpec.upto cookieRightSpec)

/-- 'biscottilaw14.CookieMade', WHERE WHAT IT READS IS OF BULK AT MOST 1048576: true; the input reads as it did. -/
def cookieMadeUptoRow : OpenClaim := { program := "ytgfoaopfdpclhaagreatdoor", sum := "280f0d32295f11c0dd1e4593954aeb18bcaa764e71fa970f4710ecdbaa95136c", func := "biscotti/biscottilaw14.CookieMade", spec := "cookieMade", inPlace := ["internal/bytealg.IndexByteString", "internal/bytealg.IndexString", "internal/bytealg.CountString"], unfollowed := true, recurses := true, named := ["biscotti/date.months", "internal/bytealg.MaxLen"], apart := false, laid := [("biscotti/date.months", laid_biscotti_date_months)], narrowed := true }
def CookieMadeUptoSaid : Prop := cookieMadeUptoRow.holds Tryz.pinned (OpenSpec.upto cookieMadeSpec)

/-- 'biscottilaw14.CookieSuffix', WHERE WHAT IT READS IS OF BULK AT MOST 1048576: true; the input reads as it did. -/
def cookieSuffixUptoRow : OpenClaim := { program := "ytgfoaopfdpclhaagreatdoor", sum := "280f0d32295f11c0dd1e4593954aeb18bcaa764e71fa970f4710ecdbaa95136c", func := "biscotti/biscottilaw14.CookieSuffix", spec := "cookieSuffix", inPlace := ["internal/bytealg.IndexByteString", "internal/bytealg.IndexString", "internal/bytealg.CountString"], unfollowed := true, recurses := true, named := ["biscotti/date.months", "internal/bytealg.MaxLen"], apart := false, laid := [("biscotti/date.months", laid_biscotti_date_months)], narrowed := true }
def CookieSuffixUptoSaid : Prop := cookieSuffixUptoRow.holds Tryz.pinned (OpenSpec.upto cookieSuffixSpec)

end Rows
end Go.Proofs.YtgfoaopfdpclhaaGreatDoor

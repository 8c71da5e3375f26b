/-
  No cell of these rows narrows 'for every input' (looked for: loops, veiled, ifaces, maps, wideKeys, modest, calm, conditions, laid).
  DERIVED. THE GIVEN ROWS OF THIS SEAT. 6 by the template 'for every input the law returns true; each argument reads behind the call as it read before'; 0 by the template 'total and deterministic' (their statements: YtbijphfendaddaaTotals.lean).
  GIVEN WITH THE SEED: the statements are not yours to turn. If you find one false, say at which input.
  Laid BY PROGRAM, IN A SANDBOX (cutbox-rows.mjs): the forced cells as the released guide's own fill.sh prints them over the translation ba64582b9e6997b4… (all of the seat's roots in one cut). By AI agents, Wed Nov 11 2026. No macro, syntax, notation, axiom, sorry.
-/
import Derived.Test.YtbijphfendaddaaChecked
import GoSem.Claim
import GoSem.ClaimJoined
import GoSem.ClaimMapViews
import Derived.JoinedTies
import Derived.KernelRfl
namespace Go.Proofs.Ytbijphfendaddaa
/- THE CELL 'sum', in the pinned program and in every row, IS THE sha256 OF THE DUMP (.gsa) THAT YtbijphfendaddaaProg.lean LOADS. Nothing in Lean hashes anything: it is a label: what it is worth is what the hold of that sum in a sandbox is worth. -/
noncomputable def Try.pinned : Pinned := { name := "ytbijphfendaddaa", sum := "ba64582b9e6997b4deb3c75c6759db8d1548fd5113d29eafc5917a5828c64fdd", checked := Try.checked }
namespace Rows
def none {H : Type} : Left H := { results := [], args := [] }

/-- 'biscottilaw09.SuffixTurned': WHATEVER THE INPUT: true; the input reads as it did. -/
def suffixTurnedSpec : ChangeSpec := { name := "suffixTurned", fn := fun _ => fun
  | [d1, d2, d3] => { results := [.lit (.bool true)], args := [d1, d2, d3] }
  | _ => none }
def suffixTurnedRow : OpenClaim := { program := "ytbijphfendaddaa", sum := "ba64582b9e6997b4deb3c75c6759db8d1548fd5113d29eafc5917a5828c64fdd", func := "biscotti/biscottilaw09.SuffixTurned", spec := "suffixTurned", inPlace := ["internal/bytealg.CountString", "internal/bytealg.IndexByteString", "internal/bytealg.IndexString"], unfollowed := true, recurses := true, named := ["internal/bytealg.MaxLen"], apart := false }
def SuffixTurnedSaid : Prop := suffixTurnedRow.holds Try.pinned (OpenSpec.ofChange suffixTurnedSpec)

/-- ITS FALSE NEIGHBOUR: 'it returns false'. Refute it at one input. -/
def suffixTurnedWrong : ChangeSpec := { name := "suffixTurned", fn := fun _ => fun
  | [d1, d2, d3] => { results := [.lit (.bool false)], args := [d1, d2, d3] }
  | _ => none }
def SuffixTurnedWrongFalsely : Prop := suffixTurnedRow.holds Try.pinned (OpenSpec.ofChange suffixTurnedWrong)

/-- 'biscottilaw09.SuffixOf': WHATEVER THE INPUT: true; the input reads as it did. -/
def suffixOfSpec : ChangeSpec := { name := "suffixOf", fn := fun _ => fun
  | [d1, d2] => { results := [.lit (.bool true)], args := [d1, d2] }
  | _ => none }
def suffixOfRow : OpenClaim := { program := "ytbijphfendaddaa", sum := "ba64582b9e6997b4deb3c75c6759db8d1548fd5113d29eafc5917a5828c64fdd", func := "biscotti/biscottilaw09.SuffixOf", spec := "suffixOf", inPlace := ["internal/bytealg.CountString", "internal/bytealg.IndexByteString", "internal/bytealg.IndexString"], unfollowed := true, recurses := true, named := ["internal/bytealg.MaxLen"], apart := false }
def SuffixOfSaid : Prop := suffixOfRow.holds Try.pinned (OpenSpec.ofChange suffixOfSpec)

/-- ITS FALSE NEIGHBOUR: 'it returns false'. Refute it at one input. -/
def suffixOfWrong : ChangeSpec := { name := "suffixOf", fn := fun _ => fun
  | [d1, d2] => { results := [.lit (.bool false)], args := [d1, d2] }
  | _ => none }
def SuffixOfWrongFalsely : Prop := suffixOfRow.holds Try.pinned (OpenSpec.ofChange suffixOfWrong)

/-- 'biscottilaw09.SuffixMatches': WHATEVER THE INPUT: true; the input reads as it did. -/
def suffixMatchesSpec : ChangeSpec := { name := "suffixMatches", fn := fun _ => fun
  | [d1, d2] => { results := [.lit (.bool true)], args := [d1, d2] }
  | _ => none }
def suffixMatchesRow : OpenClaim := { program := "ytbijphfendaddaa", sum := "ba64582b9e6997b4deb3c75c6759db8d1548fd5113d29eafc5917a5828c64fdd", func := "biscotti/biscottilaw09.SuffixMatches", spec := "suffixMatches", inPlace := ["internal/bytealg.CountString", "internal/bytealg.IndexByteString", "internal/bytealg.IndexString"], unfollowed := true, recurses := true, named := ["internal/bytealg.MaxLen"], apart := false }
def SuffixMatchesSaid : Prop := suffixMatchesRow.holds Try.pinned (OpenSpec.ofChange suffixMatchesSpec)

/-- ITS FALSE NEIGHBOUR: 'it returns false'. Refute it at one input. -/
def suffixMatchesWrong : ChangeSpec := { name := "suffixMatches", fn := fun _ => fun
  | [d1, d2] => { results := [.lit (.bool false)], args := [d1, d2] }
  | _ => none }
def SuffixMatchesWrongFalsely : Prop := suffixMatchesRow.holds Try.pinned (OpenSpec.ofChange suffixMatchesWrong)

/-- 'biscottilaw10.UriParses': WHATEVER THE INPUT: true; the input reads as it did. -/
def uriParsesSpec : ChangeSpec := { name := "uriParses", fn := fun _ => fun
  | [d] => { results := [.lit (.bool true)], args := [d] }
  | _ => none }
def uriParsesRow : OpenClaim := { program := "ytbijphfendaddaa", sum := "ba64582b9e6997b4deb3c75c6759db8d1548fd5113d29eafc5917a5828c64fdd", func := "biscotti/biscottilaw10.UriParses", spec := "uriParses", inPlace := ["internal/bytealg.IndexByteString", "internal/bytealg.IndexString"], unfollowed := true, recurses := true, named := ["internal/bytealg.MaxLen"], apart := false }
def UriParsesSaid : Prop := uriParsesRow.holds Try.pinned (OpenSpec.ofChange uriParsesSpec)

/-- ITS FALSE NEIGHBOUR: 'it returns false'. Refute it at one input. -/
def uriParsesWrong : ChangeSpec := { name := "uriParses", fn := fun _ => fun
  | [d] => { results := [.lit (.bool false)], args := [d] }
  | _ => none }
def UriParsesWrongFalsely : Prop := uriParsesRow.holds Try.pinned (OpenSpec.ofChange uriParsesWrong)

/-- 'biscottilaw10.UriPaths': WHATEVER THE INPUT: true; the input reads as it did. -/
def uriPathsSpec : ChangeSpec := { name := "uriPaths", fn := fun _ => fun
  | [d1, d2, d3] => { results := [.lit (.bool true)], args := [d1, d2, d3] }
  | _ => none }
def uriPathsRow : OpenClaim := { program := "ytbijphfendaddaa", sum := "ba64582b9e6997b4deb3c75c6759db8d1548fd5113d29eafc5917a5828c64fdd", func := "biscotti/biscottilaw10.UriPaths", spec := "uriPaths", inPlace := ["internal/bytealg.IndexByteString", "internal/bytealg.IndexString"], unfollowed := true, recurses := true, named := ["internal/bytealg.MaxLen"], apart := false }
def UriPathsSaid : Prop := uriPathsRow.holds Try.pinned (OpenSpec.ofChange uriPathsSpec)

/-- ITS FALSE NEIGHBOUR: 'it returns false'. Refute it at one input. -/
def uriPathsWrong : ChangeSpec := { name := "uriPaths", fn := fun _ => fun
  | [d1, d2, d3] => { results := [.lit (.bool false)], args := [d1, d2, d3] }
  | _ => none }
def UriPathsWrongFalsely : Prop := uriPathsRow.holds Try.pinned (OpenSpec.ofChange uriPathsWrong)

/-- 'biscottilaw10.UriTexts': WHATEVER THE INPUT: true; the input reads as it did. -/
def uriTextsSpec : ChangeSpec := { name := "uriTexts", fn := fun _ => fun
  | [d] => { results := [.lit (.bool true)], args := [d] }
  | _ => none }
def uriTextsRow : OpenClaim := { program := "ytbijphfendaddaa", sum := "ba64582b9e6997b4deb3c75c6759db8d1548fd5113d29eafc5917a5828c64fdd", func := "biscotti/biscottilaw10.UriTexts", spec := "uriTexts", inPlace := ["internal/bytealg.IndexByteString", "internal/bytealg.IndexString"], unfollowed := true, recurses := true, named := ["internal/bytealg.MaxLen"], apart := false }
def UriTextsSaid : Prop := uriTextsRow.holds Try.pinned (OpenSpec.ofChange uriTextsSpec)

/-- ITS FALSE NEIGHBOUR: 'it returns false'. Refute it at one input. -/
def uriTextsWrong : ChangeSpec := { name := "uriTexts", fn := fun _ => fun
  | [d] => { results := [.lit (.bool false)], args := [d] }
  | _ => none }
def UriTextsWrongFalsely : Prop := uriTextsRow.holds Try.pinned (OpenSpec.ofChange uriTextsWrong)

/- THE SECOND FORM. 'bulk': how many values and letters a reading holds, each counted each time it is reached (what is shared counts as often as it is met; a slice's spare places count too). A statement '..UptoSaid' is the law's where the arguments, and the package variables that the reading takes, are together of bulk at most 1048576: NARROWER than '..Said'. Prove '..Said' where nothing that the law and all that it calls make is longer than what came in: it says more and counts as full. Else prove '..UptoSaid'. A law counts once. -/
mutual
def uptoBulk {H : Type} : DataW H → Nat
  | .lit (.string bytes) => bytes.length + 1
  | .lit _ => 1
  | .nil => 1
  | .ptr d => uptoBulk d + 1
  | .slice elems spare => uptoBulkAll elems + uptoBulkAll spare + 1
  | .agg parts => uptoBulkAll parts + 1
  | .iface _ d => uptoBulk d + 1
  | .map entries => uptoBulkEntries entries + 1
  | .held _ => 1
def uptoBulkAll {H : Type} : List (DataW H) → Nat
  | [] => 0
  | d :: r => uptoBulk d + uptoBulkAll r
def uptoBulkEntries {H : Type} : List (Lit × DataW H) → Nat
  | [] => 0
  | x :: r => uptoBulkEntry x + uptoBulkEntries r
def uptoBulkEntry {H : Type} : Lit × DataW H → Nat
  | (.string bytes, d) => bytes.length + uptoBulk d + 1
  | (_, d) => uptoBulk d + 1
 end
def uptoSmall : (H : Type) → List (DataW H) → Bool := fun _ ds => decide (uptoBulkAll ds ≤ 1048576)
def OpenSpec.upto (s : _root_.Go.ChangeSpec) : _root_.Go.OpenSpec := { _root_.Go.OpenSpec.ofChange s with cond := some uptoSmall }

/-- 'biscottilaw09.SuffixTurned', WHERE WHAT IT READS IS OF BULK AT MOST 1048576: true; the input reads as it did. -/
def suffixTurnedUptoRow : OpenClaim := { program := "ytbijphfendaddaa", sum := "ba64582b9e6997b4deb3c75c6759db8d1548fd5113d29eafc5917a5828c64fdd", func := "biscotti/biscottilaw09.SuffixTurned", spec := "suffixTurned", inPlace := ["internal/bytealg.CountString", "internal/bytealg.IndexByteString", "internal/bytealg.IndexString"], unfollowed := true, recurses := true, named := ["internal/bytealg.MaxLen"], apart := false, narrowed := true }
def SuffixTurnedUptoSaid : Prop := suffixTurnedUptoRow.holds Try.pinned (OpenSpec.upto suffixTurnedSpec)

/-- 'biscottilaw09.SuffixOf', WHERE WHAT IT READS IS OF BULK AT MOST 1048576: true; the input reads as it did. -/
def suffixOfUptoRow : OpenClaim := { program := "ytbijphfendaddaa", sum := "ba64582b9e6997b4deb3c75c6759db8d1548fd5113d29eafc5917a5828c64fdd", func := "biscotti/biscottilaw09.SuffixOf", spec := "suffixOf", inPlace := ["internal/bytealg.CountString", "internal/bytealg.IndexByteString", "internal/bytealg.IndexString"], unfollowed := true, recurses := true, named := ["internal/bytealg.MaxLen"], apart := false, narrowed := true }
def SuffixOfUptoSaid : Prop := suffixOfUptoRow.holds Try.pinned (OpenSpec.upto suffixOfSpec)

/-- 'biscottilaw09.SuffixMatches', WHERE WHAT IT READS IS OF BULK AT MOST 1048576: true; the input reads as it did. -/
def suffixMatchesUptoRow : OpenClaim := { program := "ytbijphfendaddaa", sum := "ba64582b9e6997b4deb3c75c6759db8d1548fd5113d29eafc5917a5828c64fdd", func := "biscotti/biscottilaw09.SuffixMatches", spec := "suffixMatches", inPlace := ["internal/bytealg.CountString", "internal/bytealg.IndexByteString", "internal/bytealg.IndexString"], unfollowed := true, recurses := true, named := ["internal/bytealg.MaxLen"], apart := false, narrowed := true }
def SuffixMatchesUptoSaid : Prop := suffixMatchesUptoRow.holds Try.pinned (OpenSpec.upto suffixMatchesSpec)

/-- 'biscottilaw10.UriParses', WHERE WHAT IT READS IS OF BULK AT MOST 1048576: true; the input reads as it did. -/
def uriParsesUptoRow : OpenClaim := { program := "ytbijphfendaddaa", sum := "ba64582b9e6997b4deb3c75c6759db8d1548fd5113d29eafc5917a5828c64fdd", func := "biscotti/biscottilaw10.UriParses", spec := "uriParses", inPlace := ["internal/bytealg.IndexByteString", "internal/bytealg.IndexString"], unfollowed := true, recurses := true, named := ["internal/bytealg.MaxLen"], apart := false, narrowed := true }
def UriParsesUptoSaid : Prop := uriParsesUptoRow.holds Try.pinned (OpenSpec.upto uriParsesSpec)

/-- 'biscottilaw10.UriPaths', WHERE WHAT IT READS IS OF BULK AT MOST 1048576: true; the input reads as it did. -/
def uriPathsUptoRow : OpenClaim := { program := "ytbijphfendaddaa", sum := "ba64582b9e6997b4deb3c75c6759db8d1548fd5113d29eafc5917a5828c64fdd", func := "biscotti/biscottilaw10.UriPaths", spec := "uriPaths", inPlace := ["internal/bytealg.IndexByteString", "internal/bytealg.IndexString"], unfollowed := true, recurses := true, named := ["internal/bytealg.MaxLen"], apart := false, narrowed := true }
def UriPathsUptoSaid : Prop := uriPathsUptoRow.holds Try.pinned (OpenSpec.upto uriPathsSpec)

/-- 'biscottilaw10.UriTexts', WHERE WHAT IT READS IS OF BULK AT MOST 1048576: true; the input reads as it did. -/
def uriTextsUptoRow : OpenClaim := { program := "ytbijphfendaddaa", sum := "ba64582b9e6997b4deb3c75c6759db8d1548fd5113d29eafc5917a5828c64fdd", func := "biscotti/biscottilaw10.UriTexts", spec := "uriTexts", inPlace := ["internal/bytealg.IndexByteString", "internal/bytealg.IndexString"], unfollowed := true, recurses := true, named := ["internal/bytealg.MaxLen"], apart := false, narrowed := true }
def UriTextsUptoSaid : Prop := uriTextsUptoRow.holds Try.pinned (OpenSpec.upto uriTextsSpec)

end Rows
end Go.Proofs.Ytbijphfendaddaa

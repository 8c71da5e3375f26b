/-
  No cell of these rows narrows 'for every input' (looked for: loops, veiled, ifaces, maps, wideKeys, modest, calm, conditions, laid).
  DERIVED. THE GIVEN ROWS OF THIS SEAT. 4 by the template 'for every input the law returns true; each argument reads behind the call as it read before'; 0 by the template 'total and deterministic' (their statements: YtgfoaopfdpclhaaTotals.lean).
  GIVEN WITH THE SEED: the statements are not yours to turn. If you find one false, say at which input.
  Laid BY PROGRAM, IN A SANDBOX (cutbox-rows.mjs): the forced cells as the released guide's own fill.sh prints them over the translation ac97e233f832020c… (all of the seat's roots in one cut). By AI agents, Wed Nov 11 2026. No macro, syntax, notation, axiom, sorry.
-/
import Derived.Test.YtgfoaopfdpclhaaChecked
import GoSem.Claim
import GoSem.ClaimJoined
import GoSem.ClaimMapViews
import Derived.JoinedTies
import Derived.KernelRfl
namespace Go.Proofs.Ytgfoaopfdpclhaa
/- THE CELL 'sum', in the pinned program and in every row, IS THE sha256 OF THE DUMP (.gsa) THAT YtgfoaopfdpclhaaProg.lean LOADS. Nothing in Lean hashes anything: it is a label: what it is worth is what the hold of that sum in a sandbox is worth. -/
noncomputable def Try.pinned : Pinned := { name := "ytgfoaopfdpclhaa", sum := "ac97e233f832020c97a59fd5fe9ca4589a28f0ad534e0a3a72d00eca5c42f119", checked := Try.checked }
namespace Rows
def none {H : Type} : Left H := { results := [], args := [] }

/-- 'biscottilaw46.ExportLines': WHATEVER THE INPUT: true; the input reads as it did. -/
def exportLinesSpec : ChangeSpec := { name := "exportLines", fn := fun _ => fun
  | [d1, d2] => { results := [.lit (.bool true)], args := [d1, d2] }
  | _ => none }
def exportLinesRow : OpenClaim := { program := "ytgfoaopfdpclhaa", sum := "ac97e233f832020c97a59fd5fe9ca4589a28f0ad534e0a3a72d00eca5c42f119", func := "biscotti/biscottilaw46.ExportLines", spec := "exportLines", inPlace := ["internal/bytealg.IndexByteString", "internal/bytealg.IndexString", "internal/abi.NoEscape", "internal/bytealg.MakeNoZero"], unfollowed := true, recurses := true, named := ["internal/bytealg.MaxLen"], apart := false }
def ExportLinesSaid : Prop := exportLinesRow.holds Try.pinned (OpenSpec.ofChange exportLinesSpec)

/-- ITS FALSE NEIGHBOUR: 'it returns false'. Refute it at one input. -/
def exportLinesWrong : ChangeSpec := { name := "exportLines", fn := fun _ => fun
  | [d1, d2] => { results := [.lit (.bool false)], args := [d1, d2] }
  | _ => none }
def ExportLinesWrongFalsely : Prop := exportLinesRow.holds Try.pinned (OpenSpec.ofChange exportLinesWrong)

/-- 'biscottilaw46.ExportParses': WHATEVER THE INPUT: true; the input reads as it did. -/
def exportParsesSpec : ChangeSpec := { name := "exportParses", fn := fun _ => fun
  | [d1, d2] => { results := [.lit (.bool true)], args := [d1, d2] }
  | _ => none }
def exportParsesRow : OpenClaim := { program := "ytgfoaopfdpclhaa", sum := "ac97e233f832020c97a59fd5fe9ca4589a28f0ad534e0a3a72d00eca5c42f119", func := "biscotti/biscottilaw46.ExportParses", spec := "exportParses", inPlace := ["internal/bytealg.IndexByteString", "internal/bytealg.IndexString", "internal/abi.NoEscape", "internal/bytealg.MakeNoZero"], unfollowed := true, recurses := true, named := ["internal/bytealg.MaxLen"], apart := false }
def ExportParsesSaid : Prop := exportParsesRow.holds Try.pinned (OpenSpec.ofChange exportParsesSpec)

/-- ITS FALSE NEIGHBOUR: 'it returns false'. Refute it at one input. -/
def exportParsesWrong : ChangeSpec := { name := "exportParses", fn := fun _ => fun
  | [d1, d2] => { results := [.lit (.bool false)], args := [d1, d2] }
  | _ => none }
def ExportParsesWrongFalsely : Prop := exportParsesRow.holds Try.pinned (OpenSpec.ofChange exportParsesWrong)

/-- 'biscottilaw46.ExportTexts': WHATEVER THE INPUT: true; the input reads as it did. -/
def exportTextsSpec : ChangeSpec := { name := "exportTexts", fn := fun _ => fun
  | [d1, d2] => { results := [.lit (.bool true)], args := [d1, d2] }
  | _ => none }
def exportTextsRow : OpenClaim := { program := "ytgfoaopfdpclhaa", sum := "ac97e233f832020c97a59fd5fe9ca4589a28f0ad534e0a3a72d00eca5c42f119", func := "biscotti/biscottilaw46.ExportTexts", spec := "exportTexts", inPlace := ["internal/bytealg.IndexByteString", "internal/bytealg.IndexString", "internal/abi.NoEscape", "internal/bytealg.MakeNoZero", "internal/bytealg.abigen_runtime_cmpstring", "slices.overlaps[biscotti/api.Item]"], unfollowed := true, recurses := true, named := ["internal/bytealg.MaxLen"], apart := false }
def ExportTextsSaid : Prop := exportTextsRow.holds Try.pinned (OpenSpec.ofChange exportTextsSpec)

/-- ITS FALSE NEIGHBOUR: 'it returns false'. Refute it at one input. -/
def exportTextsWrong : ChangeSpec := { name := "exportTexts", fn := fun _ => fun
  | [d1, d2] => { results := [.lit (.bool false)], args := [d1, d2] }
  | _ => none }
def ExportTextsWrongFalsely : Prop := exportTextsRow.holds Try.pinned (OpenSpec.ofChange exportTextsWrong)

/-- 'biscottilaw46.ExportReads': WHATEVER THE INPUT: true; the input reads as it did. -/
def exportReadsSpec : ChangeSpec := { name := "exportReads", fn := fun _ => fun
  | [d1, d2] => { results := [.lit (.bool true)], args := [d1, d2] }
  | _ => none }
def exportReadsRow : OpenClaim := { program := "ytgfoaopfdpclhaa", sum := "ac97e233f832020c97a59fd5fe9ca4589a28f0ad534e0a3a72d00eca5c42f119", func := "biscotti/biscottilaw46.ExportReads", spec := "exportReads", inPlace := ["internal/bytealg.IndexByteString", "internal/bytealg.IndexString", "internal/abi.NoEscape", "internal/bytealg.MakeNoZero", "internal/bytealg.abigen_runtime_cmpstring", "slices.overlaps[biscotti/api.Item]"], unfollowed := true, recurses := true, named := ["internal/bytealg.MaxLen"], apart := false }
def ExportReadsSaid : Prop := exportReadsRow.holds Try.pinned (OpenSpec.ofChange exportReadsSpec)

/-- ITS FALSE NEIGHBOUR: 'it returns false'. Refute it at one input. -/
def exportReadsWrong : ChangeSpec := { name := "exportReads", fn := fun _ => fun
  | [d1, d2] => { results := [.lit (.bool false)], args := [d1, d2] }
  | _ => none }
def ExportReadsWrongFalsely : Prop := exportReadsRow.holds Try.pinned (OpenSpec.ofChange exportReadsWrong)

/- THE SECOND FORM. 'bulk': how many values and letters a reading holds, each counted each time it is reached (what is shared counts as often as it is met; a slice's spare places count too). A statement '..UptoSaid' is the law's where the arguments, and the package variables that the reading takes, are together of bulk at most 1048576: NARROWER than '..Said'. Prove '..Said' where nothing that the law and all that it calls make is longer than what came in: it says more and counts as full. Else prove '..UptoSaid'. A law counts once. -/
mutual
def uptoBulk {H : Type} : DataW H → Nat
  | .lit (.string bytes) => bytes.length + 1
  | .lit _ => 1
  | .nil => 1
  | .ptr d => uptoBulk d + 1
  | .slice elems spare => uptoBulkAll elems + uptoBulkAll spare + 1
  | .agg parts => uptoBulkAll parts + 1
  | .iface _ d => uptoBulk d + 1
  | .map entries => uptoBulkEntries entries + 1
  | .held _ => 1
def uptoBulkAll {H : Type} : List (DataW H) → Nat
  | [] => 0
  | d :: r => uptoBulk d + uptoBulkAll r
def uptoBulkEntries {H : Type} : List (Lit × DataW H) → Nat
  | [] => 0
  | x :: r => uptoBulkEntry x + uptoBulkEntries r
def uptoBulkEntry {H : Type} : Lit × DataW H → Nat
  | (.string bytes, d) => bytes.length + uptoBulk d + 1
  | (_, d) => uptoBulk d + 1
 end
def uptoSmall : (H : Type) → List (DataW H) → Bool := fun _ ds => decide (uptoBulkAll ds ≤ 1048576)
def OpenSpec.upto (s : _root_.Go.ChangeSpec) : _root_.Go.OpenSpec := { _root_.Go.OpenSpec.ofChange s with cond := some uptoSmall }

/-- 'biscottilaw46.ExportLines', WHERE WHAT IT READS IS OF BULK AT MOST 1048576: true; the input reads as it did. -/
def exportLinesUptoRow : OpenClaim := { program := "ytgfoaopfdpclhaa", sum := "ac97e233f832020c97a59fd5fe9ca4589a28f0ad534e0a3a72d00eca5c42f119", func := "biscotti/biscottilaw46.ExportLines", spec := "exportLines", inPlace := ["internal/bytealg.IndexByteString", "internal/bytealg.IndexString", "internal/abi.NoEscape", "internal/bytealg.MakeNoZero"], unfollowed := true, recurses := true, named := ["internal/bytealg.MaxLen"], apart := false, narrowed := true }
def ExportLinesUptoSaid : Prop := exportLinesUptoRow.holds Try.pinned (OpenSpec.upto exportLinesSpec)

/-- 'biscottilaw46.ExportParses', WHERE WHAT IT READS IS OF BULK AT MOST 1048576: true; the input reads as it did. -/
def exportParsesUptoRow : OpenClaim := { program := "ytgfoaopfdpclhaa", sum := "ac97e233f832020c97a59fd5fe9ca4589a28f0ad534e0a3a72d00eca5c42f119", func := "biscotti/biscottilaw46.ExportParses", spec := "exportParses", inPlace := ["internal/bytealg.IndexByteString", "internal/bytealg.IndexString", "internal/abi.NoEscape", "internal/bytealg.MakeNoZero"], unfollowed := true, recurses := true, named := ["internal/bytealg.MaxLen"], apart := false, narrowed := true }
def ExportParsesUptoSaid : Prop := exportParsesUptoRow.holds Try.pinned (OpenSpec.upto exportParsesSpec)

/-- 'biscottilaw46.ExportTexts', WHERE WHAT IT READS IS OF BULK AT MOST 1048576: true; the input reads as it did. -/
def exportTextsUptoRow : OpenClaim := { program := "ytgfoaopfdpclhaa", sum := "ac97e233f832020c97a59fd5fe9ca4589a28f0ad534e0a3a72d00eca5c42f119", func := "biscotti/biscottilaw46.ExportTexts", spec := "exportTexts", inPlace := ["internal/bytealg.IndexByteString", "internal/bytealg.IndexString", "internal/abi.NoEscape", "internal/bytealg.MakeNoZero", "internal/bytealg.abigen_runtime_cmpstring", "slices.overlaps[biscotti/api.Item]"], unfollowed := true, recurses := true, named := ["internal/bytealg.MaxLen"], apart := false, narrowed := true }
def ExportTextsUptoSaid : Prop := exportTextsUptoRow.holds Try.pinned (OpenSpec.upto exportTextsSpec)

/-- 'biscottilaw46.ExportReads', WHERE WHAT IT READS IS OF BULK AT MOST 1048576: true; the input reads as it did. -/
def exportReadsUptoRow : OpenClaim := { program := "ytgfoaopfdpclhaa", sum := "ac97e233f832020c97a59fd5fe9ca4589a28f0ad534e0a3a72d00eca5c42f119", func := "biscotti/biscottilaw46.ExportReads", spec := "exportReads", inPlace := ["internal/bytealg.IndexByteString", "internal/bytealg.IndexString", "internal/abi.NoEscape", "internal/bytealg.MakeNoZero", "internal/bytealg.abigen_runtime_cmpstring", "slices.overlaps[biscotti/api.Item]"], unfollowed := true, recurses := true, named := ["internal/bytealg.MaxLen"], apart := false, narrowed := true }
def ExportReadsUptoSaid : Prop := exportReadsUptoRow.holds Try.pinned (OpenSpec.upto exportReadsSpec)

end Rows
end Go.Proofs.Ytgfoaopfdpclhaa

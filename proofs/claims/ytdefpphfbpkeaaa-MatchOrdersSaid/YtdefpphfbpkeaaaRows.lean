/-
  No cell of these rows narrows 'for every input' (looked for: loops, veiled, ifaces, maps, wideKeys, modest, calm, conditions, laid).
  DERIVED. THE GIVEN ROWS OF THIS SEAT. 8 by the template 'for every input the law returns true; each argument reads behind the call as it read before'; 0 by the template 'total and deterministic' (their statements: YtdefpphfbpkeaaaTotals.lean).
  GIVEN WITH THE SEED: the statements are not yours to turn. If you find one false, say at which input.
  Laid BY PROGRAM, IN A SANDBOX (cutbox-rows.mjs): the forced cells as the released guide's own fill.sh prints them over the translation 2f6637c98beb01c0… (all of the seat's roots in one cut). By AI agents, Wed Nov 11 2026. No macro, syntax, notation, axiom, sorry.
-/
import Derived.Test.YtdefpphfbpkeaaaChecked
import GoSem.Claim
import GoSem.ClaimJoined
import GoSem.ClaimMapViews
import Derived.JoinedTies
import Derived.KernelRfl
namespace Go.Proofs.Ytdefpphfbpkeaaa
/- THE CELL 'sum', in the pinned program and in every row, IS THE sha256 OF THE DUMP (.gsa) THAT YtdefpphfbpkeaaaProg.lean LOADS. Nothing in Lean hashes anything: it is a label: what it is worth is what the hold of that sum in a sandbox is worth. -/
noncomputable def Try.pinned : Pinned := { name := "ytdefpphfbpkeaaa", sum := "2f6637c98beb01c092515c6d932649d9cc697173d4a6dbd8cb3d3e9c0baf1847", checked := Try.checked }
namespace Rows
def none {H : Type} : Left H := { results := [], args := [] }

/-- 'biscottilaw47.DiffOf': WHATEVER THE INPUT: true; the input reads as it did. -/
def diffOfSpec : ChangeSpec := { name := "diffOf", fn := fun _ => fun
  | [d1, d2] => { results := [.lit (.bool true)], args := [d1, d2] }
  | _ => none }
def diffOfRow : OpenClaim := { program := "ytdefpphfbpkeaaa", sum := "2f6637c98beb01c092515c6d932649d9cc697173d4a6dbd8cb3d3e9c0baf1847", func := "biscotti/biscottilaw47.DiffOf", spec := "diffOf", inPlace := ["internal/bytealg.abigen_runtime_cmpstring"], apart := false }
def DiffOfSaid : Prop := diffOfRow.holds Try.pinned (OpenSpec.ofChange diffOfSpec)

/-- ITS FALSE NEIGHBOUR: 'it returns false'. Refute it at one input. -/
def diffOfWrong : ChangeSpec := { name := "diffOf", fn := fun _ => fun
  | [d1, d2] => { results := [.lit (.bool false)], args := [d1, d2] }
  | _ => none }
def DiffOfWrongFalsely : Prop := diffOfRow.holds Try.pinned (OpenSpec.ofChange diffOfWrong)

/-- 'biscottilaw47.DiffThen': WHATEVER THE INPUT: true; the input reads as it did. -/
def diffThenSpec : ChangeSpec := { name := "diffThen", fn := fun _ => fun
  | [d1, d2] => { results := [.lit (.bool true)], args := [d1, d2] }
  | _ => none }
def diffThenRow : OpenClaim := { program := "ytdefpphfbpkeaaa", sum := "2f6637c98beb01c092515c6d932649d9cc697173d4a6dbd8cb3d3e9c0baf1847", func := "biscotti/biscottilaw47.DiffThen", spec := "diffThen", inPlace := ["internal/bytealg.abigen_runtime_cmpstring"], apart := false }
def DiffThenSaid : Prop := diffThenRow.holds Try.pinned (OpenSpec.ofChange diffThenSpec)

/-- ITS FALSE NEIGHBOUR: 'it returns false'. Refute it at one input. -/
def diffThenWrong : ChangeSpec := { name := "diffThen", fn := fun _ => fun
  | [d1, d2] => { results := [.lit (.bool false)], args := [d1, d2] }
  | _ => none }
def DiffThenWrongFalsely : Prop := diffThenRow.holds Try.pinned (OpenSpec.ofChange diffThenWrong)

/-- 'biscottilaw47.DiffThree': WHATEVER THE INPUT: true; the input reads as it did. -/
def diffThreeSpec : ChangeSpec := { name := "diffThree", fn := fun _ => fun
  | [d1, d2, d3] => { results := [.lit (.bool true)], args := [d1, d2, d3] }
  | _ => none }
def diffThreeRow : OpenClaim := { program := "ytdefpphfbpkeaaa", sum := "2f6637c98beb01c092515c6d932649d9cc697173d4a6dbd8cb3d3e9c0baf1847", func := "biscotti/biscottilaw47.DiffThree", spec := "diffThree", inPlace := ["internal/bytealg.abigen_runtime_cmpstring"], apart := false }
def DiffThreeSaid : Prop := diffThreeRow.holds Try.pinned (OpenSpec.ofChange diffThreeSpec)

/-- ITS FALSE NEIGHBOUR: 'it returns false'. Refute it at one input. -/
def diffThreeWrong : ChangeSpec := { name := "diffThree", fn := fun _ => fun
  | [d1, d2, d3] => { results := [.lit (.bool false)], args := [d1, d2, d3] }
  | _ => none }
def DiffThreeWrongFalsely : Prop := diffThreeRow.holds Try.pinned (OpenSpec.ofChange diffThreeWrong)

/-- 'biscottilaw47.DiffApplies': WHATEVER THE INPUT: true; the input reads as it did. -/
def diffAppliesSpec : ChangeSpec := { name := "diffApplies", fn := fun _ => fun
  | [d1, d2] => { results := [.lit (.bool true)], args := [d1, d2] }
  | _ => none }
def diffAppliesRow : OpenClaim := { program := "ytdefpphfbpkeaaa", sum := "2f6637c98beb01c092515c6d932649d9cc697173d4a6dbd8cb3d3e9c0baf1847", func := "biscotti/biscottilaw47.DiffApplies", spec := "diffApplies", inPlace := ["internal/bytealg.abigen_runtime_cmpstring", "slices.overlaps[biscotti/api.Item]"], unfollowed := true, recurses := true, apart := false }
def DiffAppliesSaid : Prop := diffAppliesRow.holds Try.pinned (OpenSpec.ofChange diffAppliesSpec)

/-- ITS FALSE NEIGHBOUR: 'it returns false'. Refute it at one input. -/
def diffAppliesWrong : ChangeSpec := { name := "diffApplies", fn := fun _ => fun
  | [d1, d2] => { results := [.lit (.bool false)], args := [d1, d2] }
  | _ => none }
def DiffAppliesWrongFalsely : Prop := diffAppliesRow.holds Try.pinned (OpenSpec.ofChange diffAppliesWrong)

/-- 'biscottilaw47.DiffBack': WHATEVER THE INPUT: true; the input reads as it did. -/
def diffBackSpec : ChangeSpec := { name := "diffBack", fn := fun _ => fun
  | [d1, d2] => { results := [.lit (.bool true)], args := [d1, d2] }
  | _ => none }
def diffBackRow : OpenClaim := { program := "ytdefpphfbpkeaaa", sum := "2f6637c98beb01c092515c6d932649d9cc697173d4a6dbd8cb3d3e9c0baf1847", func := "biscotti/biscottilaw47.DiffBack", spec := "diffBack", inPlace := ["internal/bytealg.abigen_runtime_cmpstring", "slices.overlaps[biscotti/api.Item]"], unfollowed := true, recurses := true, apart := false }
def DiffBackSaid : Prop := diffBackRow.holds Try.pinned (OpenSpec.ofChange diffBackSpec)

/-- ITS FALSE NEIGHBOUR: 'it returns false'. Refute it at one input. -/
def diffBackWrong : ChangeSpec := { name := "diffBack", fn := fun _ => fun
  | [d1, d2] => { results := [.lit (.bool false)], args := [d1, d2] }
  | _ => none }
def DiffBackWrongFalsely : Prop := diffBackRow.holds Try.pinned (OpenSpec.ofChange diffBackWrong)

/-- 'biscottilaw15.MatchSorts': WHATEVER THE INPUT: true; the input reads as it did. -/
def matchSortsSpec : ChangeSpec := { name := "matchSorts", fn := fun _ => fun
  | [d] => { results := [.lit (.bool true)], args := [d] }
  | _ => none }
def matchSortsRow : OpenClaim := { program := "ytdefpphfbpkeaaa", sum := "2f6637c98beb01c092515c6d932649d9cc697173d4a6dbd8cb3d3e9c0baf1847", func := "biscotti/biscottilaw15.MatchSorts", spec := "matchSorts", inPlace := ["internal/bytealg.abigen_runtime_cmpstring", "internal/abi.NoEscape", "internal/bytealg.MakeNoZero"], unfollowed := true, recurses := true, apart := false }
def MatchSortsSaid : Prop := matchSortsRow.holds Try.pinned (OpenSpec.ofChange matchSortsSpec)

/-- ITS FALSE NEIGHBOUR: 'it returns false'. Refute it at one input. -/
def matchSortsWrong : ChangeSpec := { name := "matchSorts", fn := fun _ => fun
  | [d] => { results := [.lit (.bool false)], args := [d] }
  | _ => none }
def MatchSortsWrongFalsely : Prop := matchSortsRow.holds Try.pinned (OpenSpec.ofChange matchSortsWrong)

/-- 'biscottilaw15.MatchTurned': WHATEVER THE INPUT: true; the input reads as it did. -/
def matchTurnedSpec : ChangeSpec := { name := "matchTurned", fn := fun _ => fun
  | [d1, d2, d3] => { results := [.lit (.bool true)], args := [d1, d2, d3] }
  | _ => none }
def matchTurnedRow : OpenClaim := { program := "ytdefpphfbpkeaaa", sum := "2f6637c98beb01c092515c6d932649d9cc697173d4a6dbd8cb3d3e9c0baf1847", func := "biscotti/biscottilaw15.MatchTurned", spec := "matchTurned", inPlace := ["internal/bytealg.abigen_runtime_cmpstring", "internal/abi.NoEscape", "internal/bytealg.MakeNoZero"], unfollowed := true, recurses := true, apart := false }
def MatchTurnedSaid : Prop := matchTurnedRow.holds Try.pinned (OpenSpec.ofChange matchTurnedSpec)

/-- ITS FALSE NEIGHBOUR: 'it returns false'. Refute it at one input. -/
def matchTurnedWrong : ChangeSpec := { name := "matchTurned", fn := fun _ => fun
  | [d1, d2, d3] => { results := [.lit (.bool false)], args := [d1, d2, d3] }
  | _ => none }
def MatchTurnedWrongFalsely : Prop := matchTurnedRow.holds Try.pinned (OpenSpec.ofChange matchTurnedWrong)

/-- 'biscottilaw15.MatchOrders': WHATEVER THE INPUT: true; the input reads as it did. -/
def matchOrdersSpec : ChangeSpec := { name := "matchOrders", fn := fun _ => fun
  | [d1, d2] => { results := [.lit (.bool true)], args := [d1, d2] }
  | _ => none }
def matchOrdersRow : OpenClaim := { program := "ytdefpphfbpkeaaa", sum := "2f6637c98beb01c092515c6d932649d9cc697173d4a6dbd8cb3d3e9c0baf1847", func := "biscotti/biscottilaw15.MatchOrders", spec := "matchOrders", inPlace := ["internal/bytealg.abigen_runtime_cmpstring", "internal/abi.NoEscape", "internal/bytealg.MakeNoZero"], unfollowed := true, recurses := true, apart := false }
def MatchOrdersSaid : Prop := matchOrdersRow.holds Try.pinned (OpenSpec.ofChange matchOrdersSpec)

/-- ITS FALSE NEIGHBOUR: 'it returns false'. Refute it at one input. -/
def matchOrdersWrong : ChangeSpec := { name := "matchOrders", fn := fun _ => fun
  | [d1, d2] => { results := [.lit (.bool false)], args := [d1, d2] }
  | _ => none }
def MatchOrdersWrongFalsely : Prop := matchOrdersRow.holds Try.pinned (OpenSpec.ofChange matchOrdersWrong)

/- THE SECOND FORM. 'bulk': how many values and letters a reading holds, each counted each time it is reached (what is shared counts as often as it is met; a slice's spare places count too). A statement '..UptoSaid' is the law's where the arguments, and the package variables that the reading takes, are together of bulk at most 1048576: NARROWER than '..Said'. Prove '..Said' where nothing that the law and all that it calls make is longer than what came in: it says more and counts as full. Else prove '..UptoSaid'. A law counts once. -/
mutual
def uptoBulk {H : Type} : DataW H → Nat
  | .lit (.string bytes) => bytes.length + 1
  | .lit _ => 1
  | .nil => 1
  | .ptr d => uptoBulk d + 1
  | .slice elems spare => uptoBulkAll elems + uptoBulkAll spare + 1
  | .agg parts => uptoBulkAll parts + 1
  | .iface _ d => uptoBulk d + 1
  | .map entries => uptoBulkEntries entries + 1
  | .held _ => 1
def uptoBulkAll {H : Type} : List (DataW H) → Nat
  | [] => 0
  | d :: r => uptoBulk d + uptoBulkAll r
def uptoBulkEntries {H : Type} : List (Lit × DataW H) → Nat
  | [] => 0
  | x :: r => uptoBulkEntry x + uptoBulkEntries r
def uptoBulkEntry {H : Type} : Lit × DataW H → Nat
  | (.string bytes, d) => bytes.length + uptoBulk d + 1
  | (_, d) => uptoBulk d + 1
 end
def uptoSmall : (H : Type) → List (DataW H) → Bool := fun _ ds => decide (uptoBulkAll ds ≤ 1048576)
def OpenSpec.upto (s : _root_.Go.ChangeSpec) : _root_.Go.OpenSpec := { _root_.Go.OpenSpec.ofChange s with cond := some uptoSmall }

/-- 'biscottilaw47.DiffOf', WHERE WHAT IT READS IS OF BULK AT MOST 1048576: true; the input reads as it did. -/
def diffOfUptoRow : OpenClaim := { program := "ytdefpphfbpkeaaa", sum := "2f6637c98beb01c092515c6d932649d9cc697173d4a6dbd8cb3d3e9c0baf1847", func := "biscotti/biscottilaw47.DiffOf", spec := "diffOf", inPlace := ["internal/bytealg.abigen_runtime_cmpstring"], apart := false, narrowed := true }
def DiffOfUptoSaid : Prop := diffOfUptoRow.holds Try.pinned (OpenSpec.upto diffOfSpec)

/-- 'biscottilaw47.DiffThen', WHERE WHAT IT READS IS OF BULK AT MOST 1048576: true; the input reads as it did. -/
def diffThenUptoRow : OpenClaim := { program := "ytdefpphfbpkeaaa", sum := "2f6637c98beb01c092515c6d932649d9cc697173d4a6dbd8cb3d3e9c0baf1847", func := "biscotti/biscottilaw47.DiffThen", spec := "diffThen", inPlace := ["internal/bytealg.abigen_runtime_cmpstring"], apart := false, narrowed := true }
def DiffThenUptoSaid : Prop := diffThenUptoRow.holds Try.pinned (OpenSpec.upto diffThenSpec)

/-- 'biscottilaw47.DiffThree', WHERE WHAT IT READS IS OF BULK AT MOST 1048576: true; the input reads as it did. -/
def diffThreeUptoRow : OpenClaim := { program := "ytdefpphfbpkeaaa", sum := "2f6637c98beb01c092515c6d932649d9cc697173d4a6dbd8cb3d3e9c0baf1847", func := "biscotti/biscottilaw47.DiffThree", spec := "diffThree", inPlace := ["internal/bytealg.abigen_runtime_cmpstring"], apart := false, narrowed := true }
def DiffThreeUptoSaid : Prop := diffThreeUptoRow.holds Try.pinned (OpenSpec.upto diffThreeSpec)

/-- 'biscottilaw47.DiffApplies', WHERE WHAT IT READS IS OF BULK AT MOST 1048576: true; the input reads as it did. -/
def diffAppliesUptoRow : OpenClaim := { program := "ytdefpphfbpkeaaa", sum := "2f6637c98beb01c092515c6d932649d9cc697173d4a6dbd8cb3d3e9c0baf1847", func := "biscotti/biscottilaw47.DiffApplies", spec := "diffApplies", inPlace := ["internal/bytealg.abigen_runtime_cmpstring", "slices.overlaps[biscotti/api.Item]"], unfollowed := true, recurses := true, apart := false, narrowed := true }
def DiffAppliesUptoSaid : Prop := diffAppliesUptoRow.holds Try.pinned (OpenSpec.upto diffAppliesSpec)

/-- 'biscottilaw47.DiffBack', WHERE WHAT IT READS IS OF BULK AT MOST 1048576: true; the input reads as it did. -/
def diffBackUptoRow : OpenClaim := { program := "ytdefpphfbpkeaaa", sum := "2f6637c98beb01c092515c6d932649d9cc697173d4a6dbd8cb3d3e9c0baf1847", func := "biscotti/biscottilaw47.DiffBack", spec := "diffBack", inPlace := ["internal/bytealg.abigen_runtime_cmpstring", "slices.overlaps[biscotti/api.Item]"], unfollowed := true, recurses := true, apart := false, narrowed := true }
def DiffBackUptoSaid : Prop := diffBackUptoRow.holds Try.pinned (OpenSpec.upto diffBackSpec)

/-- 'biscottilaw15.MatchSorts', WHERE WHAT IT READS IS OF BULK AT MOST 1048576: true; the input reads as it did. -/
def matchSortsUptoRow : OpenClaim := { program := "ytdefpphfbpkeaaa", sum := "2f6637c98beb01c092515c6d932649d9cc697173d4a6dbd8cb3d3e9c0baf1847", func := "biscotti/biscottilaw15.MatchSorts", spec := "matchSorts", inPlace := ["internal/bytealg.abigen_runtime_cmpstring", "internal/abi.NoEscape", "internal/bytealg.MakeNoZero"], unfollowed := true, recurses := true, apart := false, narrowed := true }
def MatchSortsUptoSaid : Prop := matchSortsUptoRow.holds Try.pinned (OpenSpec.upto matchSortsSpec)

/-- 'biscottilaw15.MatchTurned', WHERE WHAT IT READS IS OF BULK AT MOST 1048576: true; the input reads as it did. -/
def matchTurnedUptoRow : OpenClaim := { program := "ytdefpphfbpkeaaa", sum := "2f6637c98beb01c092515c6d932649d9cc697173d4a6dbd8cb3d3e9c0baf1847", func := "biscotti/biscottilaw15.MatchTurned", spec := "matchTurned", inPlace := ["internal/bytealg.abigen_runtime_cmpstring", "internal/abi.NoEscape", "internal/bytealg.MakeNoZero"], unfollowed := true, recurses := true, apart := false, narrowed := true }
def MatchTurnedUptoSaid : Prop := matchTurnedUptoRow.holds Try.pinned (OpenSpec.upto matchTurnedSpec)

/-- 'biscottilaw15.MatchOrders', WHERE WHAT IT READS IS OF BULK AT MOST 1048576: true; the input reads as it did. -/
def matchOrdersUptoRow : OpenClaim := { program := "ytdefpphfbpkeaaa", sum := "2f6637c98beb01c092515c6d932649d9cc697173d4a6dbd8cb3d3e9c0baf1847", func := "biscotti/biscottilaw15.MatchOrders", spec := "matchOrders", inPlace := ["internal/bytealg.abigen_runtime_cmpstring", "internal/abi.NoEscape", "internal/bytealg.MakeNoZero"], unfollowed := true, recurses := true, apart := false, narrowed := true }
def MatchOrdersUptoSaid : Prop := matchOrdersUptoRow.holds Try.pinned (OpenSpec.upto matchOrdersSpec)

end Rows
end Go.Proofs.Ytdefpphfbpkeaaa

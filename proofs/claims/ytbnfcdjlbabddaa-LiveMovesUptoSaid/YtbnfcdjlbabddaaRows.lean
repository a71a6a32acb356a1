/-
  No cell of these rows narrows 'for every input' (looked for: loops, veiled, ifaces, maps, wideKeys, modest, calm, conditions, laid).
  DERIVED. THE GIVEN ROWS OF THIS SEAT. 9 by the template 'for every input the law returns true; each argument reads behind the call as it read before'; 0 by the template 'total and deterministic' (their statements: YtbnfcdjlbabddaaTotals.lean).
  GIVEN WITH THE SEED: the statements are not yours to turn. If you find one false, say at which input.
  Laid BY PROGRAM, IN A SANDBOX (cutbox-rows.mjs): the forced cells as the released guide's own fill.sh prints them over the translation e19b7056bfb462d9… (all of the seat's roots in one cut). By AI agents, Wed Nov 11 2026. No macro, syntax, notation, axiom, sorry.
-/
import Derived.Test.YtbnfcdjlbabddaaChecked
import GoSem.Claim
import GoSem.ClaimJoined
import GoSem.ClaimMapViews
import Derived.JoinedTies
import Derived.KernelRfl
namespace Go.Proofs.Ytbnfcdjlbabddaa
/- THE CELL 'sum', in the pinned program and in every row, IS THE sha256 OF THE DUMP (.gsa) THAT YtbnfcdjlbabddaaProg.lean LOADS. Nothing in Lean hashes anything: it is a label: what it is worth is what the hold of that sum in a sandbox is worth. -/
noncomputable def Try.pinned : Pinned := { name := "ytbnfcdjlbabddaa", sum := "e19b7056bfb462d93d4b056fb6564003f396b94556154d81f9abe6a06506e37b", checked := Try.checked }
namespace Rows
def none {H : Type} : Left H := { results := [], args := [] }

/-- 'cellarerlaw45.LiveFlows': WHATEVER THE INPUT: true; the input reads as it did. -/
def liveFlowsSpec : ChangeSpec := { name := "liveFlows", fn := fun _ => fun
  | [d] => { results := [.lit (.bool true)], args := [d] }
  | _ => none }
def liveFlowsRow : OpenClaim := { program := "ytbnfcdjlbabddaa", sum := "e19b7056bfb462d93d4b056fb6564003f396b94556154d81f9abe6a06506e37b", func := "cellarer/cellarerlaw45.LiveFlows", spec := "liveFlows", unfollowed := true, recurses := true, apart := false }
def LiveFlowsSaid : Prop := liveFlowsRow.holds Try.pinned (OpenSpec.ofChange liveFlowsSpec)

/-- ITS FALSE NEIGHBOUR: 'it returns false'. Refute it at one input. -/
def liveFlowsWrong : ChangeSpec := { name := "liveFlows", fn := fun _ => fun
  | [d] => { results := [.lit (.bool false)], args := [d] }
  | _ => none }
def LiveFlowsWrongFalsely : Prop := liveFlowsRow.holds Try.pinned (OpenSpec.ofChange liveFlowsWrong)

/-- 'cellarerlaw45.LiveBegins': WHATEVER THE INPUT: true; the input reads as it did. -/
def liveBeginsSpec : ChangeSpec := { name := "liveBegins", fn := fun _ => fun
  | [d] => { results := [.lit (.bool true)], args := [d] }
  | _ => none }
def liveBeginsRow : OpenClaim := { program := "ytbnfcdjlbabddaa", sum := "e19b7056bfb462d93d4b056fb6564003f396b94556154d81f9abe6a06506e37b", func := "cellarer/cellarerlaw45.LiveBegins", spec := "liveBegins", unfollowed := true, recurses := true, apart := false }
def LiveBeginsSaid : Prop := liveBeginsRow.holds Try.pinned (OpenSpec.ofChange liveBeginsSpec)

/-- ITS FALSE NEIGHBOUR: 'it returns false'. Refute it at one input. -/
def liveBeginsWrong : ChangeSpec := { name := "liveBegins", fn := fun _ => fun
  | [d] => { results := [.lit (.bool false)], args := [d] }
  | _ => none }
def LiveBeginsWrongFalsely : Prop := liveBeginsRow.holds Try.pinned (OpenSpec.ofChange liveBeginsWrong)

/-- 'cellarerlaw45.LiveMoves': WHATEVER THE INPUT: true; the input reads as it did. -/
def liveMovesSpec : ChangeSpec := { name := "liveMoves", fn := fun _ => fun
  | [d] => { results := [.lit (.bool true)], args := [d] }
  | _ => none }
def liveMovesRow : OpenClaim := { program := "ytbnfcdjlbabddaa", sum := "e19b7056bfb462d93d4b056fb6564003f396b94556154d81f9abe6a06506e37b", func := "cellarer/cellarerlaw45.LiveMoves", spec := "liveMoves", unfollowed := true, recurses := true, apart := false }
def LiveMovesSaid : Prop := liveMovesRow.holds Try.pinned (OpenSpec.ofChange liveMovesSpec)

/-- ITS FALSE NEIGHBOUR: 'it returns false'. Refute it at one input. -/
def liveMovesWrong : ChangeSpec := { name := "liveMoves", fn := fun _ => fun
  | [d] => { results := [.lit (.bool false)], args := [d] }
  | _ => none }
def LiveMovesWrongFalsely : Prop := liveMovesRow.holds Try.pinned (OpenSpec.ofChange liveMovesWrong)

/-- 'cellarerlaw46.AssignRegisters': WHATEVER THE INPUT: true; the input reads as it did. -/
def assignRegistersSpec : ChangeSpec := { name := "assignRegisters", fn := fun _ => fun
  | [d] => { results := [.lit (.bool true)], args := [d] }
  | _ => none }
def assignRegistersRow : OpenClaim := { program := "ytbnfcdjlbabddaa", sum := "e19b7056bfb462d93d4b056fb6564003f396b94556154d81f9abe6a06506e37b", func := "cellarer/cellarerlaw46.AssignRegisters", spec := "assignRegisters", unfollowed := true, recurses := true, apart := false }
def AssignRegistersSaid : Prop := assignRegistersRow.holds Try.pinned (OpenSpec.ofChange assignRegistersSpec)

/-- ITS FALSE NEIGHBOUR: 'it returns false'. Refute it at one input. -/
def assignRegistersWrong : ChangeSpec := { name := "assignRegisters", fn := fun _ => fun
  | [d] => { results := [.lit (.bool false)], args := [d] }
  | _ => none }
def AssignRegistersWrongFalsely : Prop := assignRegistersRow.holds Try.pinned (OpenSpec.ofChange assignRegistersWrong)

/-- 'cellarerlaw46.AssignChecks': WHATEVER THE INPUT: true; the input reads as it did. -/
def assignChecksSpec : ChangeSpec := { name := "assignChecks", fn := fun _ => fun
  | [d1, d2] => { results := [.lit (.bool true)], args := [d1, d2] }
  | _ => none }
def assignChecksRow : OpenClaim := { program := "ytbnfcdjlbabddaa", sum := "e19b7056bfb462d93d4b056fb6564003f396b94556154d81f9abe6a06506e37b", func := "cellarer/cellarerlaw46.AssignChecks", spec := "assignChecks", unfollowed := true, recurses := true, apart := false }
def AssignChecksSaid : Prop := assignChecksRow.holds Try.pinned (OpenSpec.ofChange assignChecksSpec)

/-- ITS FALSE NEIGHBOUR: 'it returns false'. Refute it at one input. -/
def assignChecksWrong : ChangeSpec := { name := "assignChecks", fn := fun _ => fun
  | [d1, d2] => { results := [.lit (.bool false)], args := [d1, d2] }
  | _ => none }
def AssignChecksWrongFalsely : Prop := assignChecksRow.holds Try.pinned (OpenSpec.ofChange assignChecksWrong)

/-- 'cellarerlaw46.AssignPairs': WHATEVER THE INPUT: true; the input reads as it did. -/
def assignPairsSpec : ChangeSpec := { name := "assignPairs", fn := fun _ => fun
  | [d1, d2] => { results := [.lit (.bool true)], args := [d1, d2] }
  | _ => none }
def assignPairsRow : OpenClaim := { program := "ytbnfcdjlbabddaa", sum := "e19b7056bfb462d93d4b056fb6564003f396b94556154d81f9abe6a06506e37b", func := "cellarer/cellarerlaw46.AssignPairs", spec := "assignPairs", unfollowed := true, recurses := true, apart := false }
def AssignPairsSaid : Prop := assignPairsRow.holds Try.pinned (OpenSpec.ofChange assignPairsSpec)

/-- ITS FALSE NEIGHBOUR: 'it returns false'. Refute it at one input. -/
def assignPairsWrong : ChangeSpec := { name := "assignPairs", fn := fun _ => fun
  | [d1, d2] => { results := [.lit (.bool false)], args := [d1, d2] }
  | _ => none }
def AssignPairsWrongFalsely : Prop := assignPairsRow.holds Try.pinned (OpenSpec.ofChange assignPairsWrong)

/-- 'cellarerlaw46.AssignSwaps': WHATEVER THE INPUT: true; the input reads as it did. -/
def assignSwapsSpec : ChangeSpec := { name := "assignSwaps", fn := fun _ => fun
  | [d1, d2, d3] => { results := [.lit (.bool true)], args := [d1, d2, d3] }
  | _ => none }
def assignSwapsRow : OpenClaim := { program := "ytbnfcdjlbabddaa", sum := "e19b7056bfb462d93d4b056fb6564003f396b94556154d81f9abe6a06506e37b", func := "cellarer/cellarerlaw46.AssignSwaps", spec := "assignSwaps", unfollowed := true, recurses := true, apart := false }
def AssignSwapsSaid : Prop := assignSwapsRow.holds Try.pinned (OpenSpec.ofChange assignSwapsSpec)

/-- ITS FALSE NEIGHBOUR: 'it returns false'. Refute it at one input. -/
def assignSwapsWrong : ChangeSpec := { name := "assignSwaps", fn := fun _ => fun
  | [d1, d2, d3] => { results := [.lit (.bool false)], args := [d1, d2, d3] }
  | _ => none }
def AssignSwapsWrongFalsely : Prop := assignSwapsRow.holds Try.pinned (OpenSpec.ofChange assignSwapsWrong)

/-- 'cellarerlaw46.AssignTwice': WHATEVER THE INPUT: true; the input reads as it did. -/
def assignTwiceSpec : ChangeSpec := { name := "assignTwice", fn := fun _ => fun
  | [d1, d2, d3] => { results := [.lit (.bool true)], args := [d1, d2, d3] }
  | _ => none }
def assignTwiceRow : OpenClaim := { program := "ytbnfcdjlbabddaa", sum := "e19b7056bfb462d93d4b056fb6564003f396b94556154d81f9abe6a06506e37b", func := "cellarer/cellarerlaw46.AssignTwice", spec := "assignTwice", unfollowed := true, recurses := true, apart := false }
def AssignTwiceSaid : Prop := assignTwiceRow.holds Try.pinned (OpenSpec.ofChange assignTwiceSpec)

/-- ITS FALSE NEIGHBOUR: 'it returns false'. Refute it at one input. -/
def assignTwiceWrong : ChangeSpec := { name := "assignTwice", fn := fun _ => fun
  | [d1, d2, d3] => { results := [.lit (.bool false)], args := [d1, d2, d3] }
  | _ => none }
def AssignTwiceWrongFalsely : Prop := assignTwiceRow.holds Try.pinned (OpenSpec.ofChange assignTwiceWrong)

/-- 'cellarerlaw46.AssignFits': WHATEVER THE INPUT: true; the input reads as it did. -/
def assignFitsSpec : ChangeSpec := { name := "assignFits", fn := fun _ => fun
  | [d] => { results := [.lit (.bool true)], args := [d] }
  | _ => none }
def assignFitsRow : OpenClaim := { program := "ytbnfcdjlbabddaa", sum := "e19b7056bfb462d93d4b056fb6564003f396b94556154d81f9abe6a06506e37b", func := "cellarer/cellarerlaw46.AssignFits", spec := "assignFits", unfollowed := true, recurses := true, apart := false }
def AssignFitsSaid : Prop := assignFitsRow.holds Try.pinned (OpenSpec.ofChange assignFitsSpec)

/-- ITS FALSE NEIGHBOUR: 'it returns false'. Refute it at one input. -/
def assignFitsWrong : ChangeSpec := { name := "assignFits", fn := fun _ => fun
  | [d] => { results := [.lit (.bool false)], args := [d] }
  | _ => none }
def AssignFitsWrongFalsely : Prop := assignFitsRow.holds Try.pinned (OpenSpec.ofChange assignFitsWrong)

/- THE SECOND FORM. 'bulk': how many values and letters a reading holds, each counted each time it is reached (what is shared counts as often as it is met; a slice's spare places count too). A statement '..UptoSaid' is the law's where the arguments, and the package variables that the reading takes, are together of bulk at most 1048576: NARROWER than '..Said'. Prove '..Said' where nothing that the law and all that it calls make is longer than what came in: it says more and counts as full. Else prove '..UptoSaid'. A law counts once. -/
mutual
def uptoBulk {H : Type} : DataW H → Nat
  | .lit (.string bytes) => bytes.length + 1
  | .lit _ => 1
  | .nil => 1
  | .ptr d => uptoBulk d + 1
  | .slice elems spare => uptoBulkAll elems + uptoBulkAll spare + 1
  | .agg parts => uptoBulkAll parts + 1
  | .iface _ d => uptoBulk d + 1
  | .map entries => uptoBulkEntries entries + 1
  | .held _ => 1
def uptoBulkAll {H : Type} : List (DataW H) → Nat
  | [] => 0
  | d :: r => uptoBulk d + uptoBulkAll r
def uptoBulkEntries {H : Type} : List (Lit × DataW H) → Nat
  | [] => 0
  | x :: r => uptoBulkEntry x + uptoBulkEntries r
def uptoBulkEntry {H : Type} : Lit × DataW H → Nat
  | (.string bytes, d) => bytes.length + uptoBulk d + 1
  | (_, d) => uptoBulk d + 1
 end
def uptoSmall : (H : Type) → List (DataW H) → Bool := fun _ ds => decide (uptoBulkAll ds ≤ 1048576)
def OpenSpec.upto (s : _root_.Go.ChangeSpec) : _root_.Go.OpenSpec := { _root_.Go.OpenSpec.ofChange s with cond := some uptoSmall }

/-- 'cellarerlaw45.LiveFlows', WHERE WHAT IT READS IS OF BULK AT MOST 1048576: true; the input reads as it did. -/
def liveFlowsUptoRow : OpenClaim := { program := "ytbnfcdjlbabddaa", sum := "e19b7056bfb462d93d4b056fb6564003f396b94556154d81f9abe6a06506e37b", func := "cellarer/cellarerlaw45.LiveFlows", spec := "liveFlows", unfollowed := true, recurses := true, apart := false, narrowed := true }
def LiveFlowsUptoSaid : Prop := liveFlowsUptoRow.holds Try.pinned (OpenSpec.upto liveFlowsSpec)

/-- 'cellarerlaw45.LiveBegins', WHERE WHAT IT READS IS OF BULK AT MOST 1048576: true; the input reads as it did. -/
def liveBeginsUptoRow : OpenClaim := { program := "ytbnfcdjlbabddaa", sum := "e19b7056bfb462d93d4b056fb6564003f396b94556154d81f9abe6a06506e37b", func := "cellarer/cellarerlaw45.LiveBegins", spec := "liveBegins", unfollowed := true, recurses := true, apart := false, narrowed := true }
def LiveBeginsUptoSaid : Prop := liveBeginsUptoRow.holds Try.pinned (OpenSpec.upto liveBeginsSpec)

/-- 'cellarerlaw45.LiveMoves', WHERE WHAT IT READS IS OF BULK AT MOST 1048576: true; the input reads as it did. -/
def liveMovesUptoRow : OpenClaim := { program := "ytbnfcdjlbabddaa", sum := "e19b7056bfb462d93d4b056fb6564003f396b94556154d81f9abe6a06506e37b", func := "cellarer/cellarerlaw45.LiveMoves", spec := "liveMoves", unfollowed := true, recurses := true, apart := false, narrowed := true }
def LiveMovesUptoSaid : Prop := liveMovesUptoRow.holds Try.pinned (OpenSpec.upto liveMovesSpec)

/-- 'cellarerlaw46.AssignRegisters', WHERE WHAT IT READS IS OF BULK AT MOST 1048576: true; the input reads as it did. -/
def assignRegistersUptoRow : OpenClaim := { program := "ytbnfcdjlbabddaa", sum := "e19b7056bfb462d93d4b056fb6564003f396b94556154d81f9abe6a06506e37b", func := "cellarer/cellarerlaw46.AssignRegisters", spec := "assignRegisters", unfollowed := true, recurses := true, apart := false, narrowed := true }
def AssignRegistersUptoSaid : Prop := assignRegistersUptoRow.holds Try.pinned (OpenSpec.upto assignRegistersSpec)

/-- 'cellarerlaw46.AssignChecks', WHERE WHAT IT READS IS OF BULK AT MOST 1048576: true; the input reads as it did. -/
def assignChecksUptoRow : OpenClaim := { program := "ytbnfcdjlbabddaa", sum := "e19b7056bfb462d93d4b056fb6564003f396b94556154d81f9abe6a06506e37b", func := "cellarer/cellarerlaw46.AssignChecks", spec := "assignChecks", unfollowed := true, recurses := true, apart := false, narrowed := true }
def AssignChecksUptoSaid : Prop := assignChecksUptoRow.holds Try.pinned (OpenSpec.upto assignChecksSpec)

/-- 'cellarerlaw46.AssignPairs', WHERE WHAT IT READS IS OF BULK AT MOST 1048576: true; the input reads as it did. -/
def assignPairsUptoRow : OpenClaim := { program := "ytbnfcdjlbabddaa", sum := "e19b7056bfb462d93d4b056fb6564003f396b94556154d81f9abe6a06506e37b", func := "cellarer/cellarerlaw46.AssignPairs", spec := "assignPairs", unfollowed := true, recurses := true, apart := false, narrowed := true }
def AssignPairsUptoSaid : Prop := assignPairsUptoRow.holds Try.pinned (OpenSpec.upto assignPairsSpec)

/-- 'cellarerlaw46.AssignSwaps', WHERE WHAT IT READS IS OF BULK AT MOST 1048576: true; the input reads as it did. -/
def assignSwapsUptoRow : OpenClaim := { program := "ytbnfcdjlbabddaa", sum := "e19b7056bfb462d93d4b056fb6564003f396b94556154d81f9abe6a06506e37b", func := "cellarer/cellarerlaw46.AssignSwaps", spec := "assignSwaps", unfollowed := true, recurses := true, apart := false, narrowed := true }
def AssignSwapsUptoSaid : Prop := assignSwapsUptoRow.holds Try.pinned (OpenSpec.upto assignSwapsSpec)

/-- 'cellarerlaw46.AssignTwice', WHERE WHAT IT READS IS OF BULK AT MOST 1048576: true; the input reads as it did. -/
def assignTwiceUptoRow : OpenClaim := { program := "ytbnfcdjlbabddaa", sum := "e19b7056bfb462d93d4b056fb6564003f396b94556154d81f9abe6a06506e37b", func := "cellarer/cellarerlaw46.AssignTwice", spec := "assignTwice", unfollowed := true, recurses := true, apart := false, narrowed := true }
def AssignTwiceUptoSaid : Prop := assignTwiceUptoRow.holds Try.pinned (OpenSpec.upto assignTwiceSpec)

/-- 'cellarerlaw46.AssignFits', WHERE WHAT IT READS IS OF BULK AT MOST 1048576: true; the input reads as it did. -/
def assignFitsUptoRow : OpenClaim := { program := "ytbnfcdjlbabddaa", sum := "e19b7056bfb462d93d4b056fb6564003f396b94556154d81f9abe6a06506e37b", func := "cellarer/cellarerlaw46.AssignFits", spec := "assignFits", unfollowed := true, recurses := true, apart := false, narrowed := true }
def AssignFitsUptoSaid : Prop := assignFitsUptoRow.holds Try.pinned (OpenSpec.upto assignFitsSpec)

end Rows
end Go.Proofs.Ytbnfcdjlbabddaa

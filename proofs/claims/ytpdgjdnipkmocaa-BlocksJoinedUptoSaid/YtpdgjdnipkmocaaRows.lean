/-
  No cell of these rows narrows 'for every input' (looked for: loops, veiled, ifaces, maps, wideKeys, modest, calm, conditions, laid).
  DERIVED. THE GIVEN ROWS OF THIS SEAT. 7 by the template 'for every input the law returns true; each argument reads behind the call as it read before'; 0 by the template 'total and deterministic' (their statements: YtpdgjdnipkmocaaTotals.lean).
  GIVEN WITH THE SEED: the statements are not yours to turn. If you find one false, say at which input.
  Laid BY PROGRAM, IN A SANDBOX (cutbox-rows.mjs): the forced cells as the released guide's own fill.sh prints them over the translation 4a515e3cd8f0b3ae… (all of the seat's roots in one cut). By AI agents, Wed Nov 11 2026. No macro, syntax, notation, axiom, sorry.
-/
import Derived.Test.YtpdgjdnipkmocaaChecked
import GoSem.Claim
import GoSem.ClaimJoined
import GoSem.ClaimMapViews
import Derived.JoinedTies
import Derived.KernelRfl
namespace Go.Proofs.Ytpdgjdnipkmocaa
/- THE CELL 'sum', in the pinned program and in every row, IS THE sha256 OF THE DUMP (.gsa) THAT YtpdgjdnipkmocaaProg.lean LOADS. Nothing in Lean hashes anything: it is a label: what it is worth is what the hold of that sum in a sandbox is worth. -/
noncomputable def Try.pinned : Pinned := { name := "ytpdgjdnipkmocaa", sum := "4a515e3cd8f0b3ae7d44b0090a06b6a53e703d492b6a489af05006c030a7c852", checked := Try.checked }
namespace Rows
def none {H : Type} : Left H := { results := [], args := [] }

/-- 'cellarerlaw48.BlocksNext': WHATEVER THE INPUT: true; the input reads as it did. -/
def blocksNextSpec : ChangeSpec := { name := "blocksNext", fn := fun _ => fun
  | [d] => { results := [.lit (.bool true)], args := [d] }
  | _ => none }
def blocksNextRow : OpenClaim := { program := "ytpdgjdnipkmocaa", sum := "4a515e3cd8f0b3ae7d44b0090a06b6a53e703d492b6a489af05006c030a7c852", func := "cellarer/cellarerlaw48.BlocksNext", spec := "blocksNext", unfollowed := true, recurses := true, apart := false }
def BlocksNextSaid : Prop := blocksNextRow.holds Try.pinned (OpenSpec.ofChange blocksNextSpec)

/-- ITS FALSE NEIGHBOUR: 'it returns false'. Refute it at one input. -/
def blocksNextWrong : ChangeSpec := { name := "blocksNext", fn := fun _ => fun
  | [d] => { results := [.lit (.bool false)], args := [d] }
  | _ => none }
def BlocksNextWrongFalsely : Prop := blocksNextRow.holds Try.pinned (OpenSpec.ofChange blocksNextWrong)

/-- 'cellarerlaw48.BlocksTidy': WHATEVER THE INPUT: true; the input reads as it did. -/
def blocksTidySpec : ChangeSpec := { name := "blocksTidy", fn := fun _ => fun
  | [d] => { results := [.lit (.bool true)], args := [d] }
  | _ => none }
def blocksTidyRow : OpenClaim := { program := "ytpdgjdnipkmocaa", sum := "4a515e3cd8f0b3ae7d44b0090a06b6a53e703d492b6a489af05006c030a7c852", func := "cellarer/cellarerlaw48.BlocksTidy", spec := "blocksTidy", unfollowed := true, recurses := true, apart := false }
def BlocksTidySaid : Prop := blocksTidyRow.holds Try.pinned (OpenSpec.ofChange blocksTidySpec)

/-- ITS FALSE NEIGHBOUR: 'it returns false'. Refute it at one input. -/
def blocksTidyWrong : ChangeSpec := { name := "blocksTidy", fn := fun _ => fun
  | [d] => { results := [.lit (.bool false)], args := [d] }
  | _ => none }
def BlocksTidyWrongFalsely : Prop := blocksTidyRow.holds Try.pinned (OpenSpec.ofChange blocksTidyWrong)

/-- 'cellarerlaw48.BlocksJoin': WHATEVER THE INPUT: true; the input reads as it did. -/
def blocksJoinSpec : ChangeSpec := { name := "blocksJoin", fn := fun _ => fun
  | [d] => { results := [.lit (.bool true)], args := [d] }
  | _ => none }
def blocksJoinRow : OpenClaim := { program := "ytpdgjdnipkmocaa", sum := "4a515e3cd8f0b3ae7d44b0090a06b6a53e703d492b6a489af05006c030a7c852", func := "cellarer/cellarerlaw48.BlocksJoin", spec := "blocksJoin", unfollowed := true, recurses := true, apart := false }
def BlocksJoinSaid : Prop := blocksJoinRow.holds Try.pinned (OpenSpec.ofChange blocksJoinSpec)

/-- ITS FALSE NEIGHBOUR: 'it returns false'. Refute it at one input. -/
def blocksJoinWrong : ChangeSpec := { name := "blocksJoin", fn := fun _ => fun
  | [d] => { results := [.lit (.bool false)], args := [d] }
  | _ => none }
def BlocksJoinWrongFalsely : Prop := blocksJoinRow.holds Try.pinned (OpenSpec.ofChange blocksJoinWrong)

/-- 'cellarerlaw48.BlocksJoined': WHATEVER THE INPUT: true; the input reads as it did. -/
def blocksJoinedSpec : ChangeSpec := { name := "blocksJoined", fn := fun _ => fun
  | [d] => { results := [.lit (.bool true)], args := [d] }
  | _ => none }
def blocksJoinedRow : OpenClaim := { program := "ytpdgjdnipkmocaa", sum := "4a515e3cd8f0b3ae7d44b0090a06b6a53e703d492b6a489af05006c030a7c852", func := "cellarer/cellarerlaw48.BlocksJoined", spec := "blocksJoined", unfollowed := true, recurses := true, apart := false }
def BlocksJoinedSaid : Prop := blocksJoinedRow.holds Try.pinned (OpenSpec.ofChange blocksJoinedSpec)

/-- ITS FALSE NEIGHBOUR: 'it returns false'. Refute it at one input. -/
def blocksJoinedWrong : ChangeSpec := { name := "blocksJoined", fn := fun _ => fun
  | [d] => { results := [.lit (.bool false)], args := [d] }
  | _ => none }
def BlocksJoinedWrongFalsely : Prop := blocksJoinedRow.holds Try.pinned (OpenSpec.ofChange blocksJoinedWrong)

/-- 'cellarerlaw48.BlocksSame': WHATEVER THE INPUT: true; the input reads as it did. -/
def blocksSameSpec : ChangeSpec := { name := "blocksSame", fn := fun _ => fun
  | [d1, d2] => { results := [.lit (.bool true)], args := [d1, d2] }
  | _ => none }
def blocksSameRow : OpenClaim := { program := "ytpdgjdnipkmocaa", sum := "4a515e3cd8f0b3ae7d44b0090a06b6a53e703d492b6a489af05006c030a7c852", func := "cellarer/cellarerlaw48.BlocksSame", spec := "blocksSame", unfollowed := true, recurses := true, apart := false }
def BlocksSameSaid : Prop := blocksSameRow.holds Try.pinned (OpenSpec.ofChange blocksSameSpec)

/-- ITS FALSE NEIGHBOUR: 'it returns false'. Refute it at one input. -/
def blocksSameWrong : ChangeSpec := { name := "blocksSame", fn := fun _ => fun
  | [d1, d2] => { results := [.lit (.bool false)], args := [d1, d2] }
  | _ => none }
def BlocksSameWrongFalsely : Prop := blocksSameRow.holds Try.pinned (OpenSpec.ofChange blocksSameWrong)

/-- 'cellarerlaw48.BlocksOrder': WHATEVER THE INPUT: true; the input reads as it did. -/
def blocksOrderSpec : ChangeSpec := { name := "blocksOrder", fn := fun _ => fun
  | [d] => { results := [.lit (.bool true)], args := [d] }
  | _ => none }
def blocksOrderRow : OpenClaim := { program := "ytpdgjdnipkmocaa", sum := "4a515e3cd8f0b3ae7d44b0090a06b6a53e703d492b6a489af05006c030a7c852", func := "cellarer/cellarerlaw48.BlocksOrder", spec := "blocksOrder", unfollowed := true, recurses := true, apart := false }
def BlocksOrderSaid : Prop := blocksOrderRow.holds Try.pinned (OpenSpec.ofChange blocksOrderSpec)

/-- ITS FALSE NEIGHBOUR: 'it returns false'. Refute it at one input. -/
def blocksOrderWrong : ChangeSpec := { name := "blocksOrder", fn := fun _ => fun
  | [d] => { results := [.lit (.bool false)], args := [d] }
  | _ => none }
def BlocksOrderWrongFalsely : Prop := blocksOrderRow.holds Try.pinned (OpenSpec.ofChange blocksOrderWrong)

/-- 'cellarerlaw48.BlocksMoves': WHATEVER THE INPUT: true; the input reads as it did. -/
def blocksMovesSpec : ChangeSpec := { name := "blocksMoves", fn := fun _ => fun
  | [d1, d2] => { results := [.lit (.bool true)], args := [d1, d2] }
  | _ => none }
def blocksMovesRow : OpenClaim := { program := "ytpdgjdnipkmocaa", sum := "4a515e3cd8f0b3ae7d44b0090a06b6a53e703d492b6a489af05006c030a7c852", func := "cellarer/cellarerlaw48.BlocksMoves", spec := "blocksMoves", unfollowed := true, recurses := true, apart := false }
def BlocksMovesSaid : Prop := blocksMovesRow.holds Try.pinned (OpenSpec.ofChange blocksMovesSpec)

/-- ITS FALSE NEIGHBOUR: 'it returns false'. Refute it at one input. -/
def blocksMovesWrong : ChangeSpec := { name := "blocksMoves", fn := fun _ => fun
  | [d1, d2] => { results := [.lit (.bool false)], args := [d1, d2] }
  | _ => none }
def BlocksMovesWrongFalsely : Prop := blocksMovesRow.holds Try.pinned (OpenSpec.ofChange blocksMovesWrong)

/- THE SECOND FORM. 'bulk': how many values and letters a reading holds, each counted each time it is reached (what is shared counts as often as it is met; a slice's spare places count too). A statement '..UptoSaid' is the law's where the arguments, and the package variables that the reading takes, are together of bulk at most 1048576: NARROWER than '..Said'. Prove '..Said' where nothing that the law and all that it calls make is longer than what came in: it says more and counts as full. Else prove '..UptoSaid'. A law counts once. -/
mutual
def uptoBulk {H : Type} : DataW H → Nat
  | .lit (.string bytes) => bytes.length + 1
  | .lit _ => 1
  | .nil => 1
  | .ptr d => uptoBulk d + 1
  | .slice elems spare => uptoBulkAll elems + uptoBulkAll spare + 1
  | .agg parts => uptoBulkAll parts + 1
  | .iface _ d => uptoBulk d + 1
  | .map entries => uptoBulkEntries entries + 1
  | .held _ => 1
def uptoBulkAll {H : Type} : List (DataW H) → Nat
  | [] => 0
  | d :: r => uptoBulk d + uptoBulkAll r
def uptoBulkEntries {H : Type} : List (Lit × DataW H) → Nat
  | [] => 0
  | x :: r => uptoBulkEntry x + uptoBulkEntries r
def uptoBulkEntry {H : Type} : Lit × DataW H → Nat
  | (.string bytes, d) => bytes.length + uptoBulk d + 1
  | (_, d) => uptoBulk d + 1
 end
def uptoSmall : (H : Type) → List (DataW H) → Bool := fun _ ds => decide (uptoBulkAll ds ≤ 1048576)
def OpenSpec.upto (s : _root_.Go.ChangeSpec) : _root_.Go.OpenSpec := { _root_.Go.OpenSpec.ofChange s with cond := some uptoSmall }

/-- 'cellarerlaw48.BlocksNext', WHERE WHAT IT READS IS OF BULK AT MOST 1048576: true; the input reads as it did. -/
def blocksNextUptoRow : OpenClaim := { program := "ytpdgjdnipkmocaa", sum := "4a515e3cd8f0b3ae7d44b0090a06b6a53e703d492b6a489af05006c030a7c852", func := "cellarer/cellarerlaw48.BlocksNext", spec := "blocksNext", unfollowed := true, recurses := true, apart := false, narrowed := true }
def BlocksNextUptoSaid : Prop := blocksNextUptoRow.holds Try.pinned (OpenSpec.upto blocksNextSpec)

/-- 'cellarerlaw48.BlocksTidy', WHERE WHAT IT READS IS OF BULK AT MOST 1048576: true; the input reads as it did. -/
def blocksTidyUptoRow : OpenClaim := { program := "ytpdgjdnipkmocaa", sum := "4a515e3cd8f0b3ae7d44b0090a06b6a53e703d492b6a489af05006c030a7c852", func := "cellarer/cellarerlaw48.BlocksTidy", spec := "blocksTidy", unfollowed := true, recurses := true, apart := false, narrowed := true }
def BlocksTidyUptoSaid : Prop := blocksTidyUptoRow.holds Try.pinned (OpenSpec.upto blocksTidySpec)

/-- 'cellarerlaw48.BlocksJoin', WHERE WHAT IT READS IS OF BULK AT MOST 1048576: true; the input reads as it did. -/
def blocksJoinUptoRow : OpenClaim := { program := "ytpdgjdnipkmocaa", sum := "4a515e3cd8f0b3ae7d44b0090a06b6a53e703d492b6a489af05006c030a7c852", func := "cellarer/cellarerlaw48.BlocksJoin", spec := "blocksJoin", unfollowed := true, recurses := true, apart := false, narrowed := true }
def BlocksJoinUptoSaid : Prop := blocksJoinUptoRow.holds Try.pinned (OpenSpec.upto blocksJoinSpec)

/-- 'cellarerlaw48.BlocksJoined', WHERE WHAT IT READS IS OF BULK AT MOST 1048576: true; the input reads as it did. -/
def blocksJoinedUptoRow : OpenClaim := { program := "ytpdgjdnipkmocaa", sum := "4a515e3cd8f0b3ae7d44b0090a06b6a53e703d492b6a489af05006c030a7c852", func := "cellarer/cellarerlaw48.BlocksJoined", spec := "blocksJoined", unfollowed := true, recurses := true, apart := false, narrowed := true }
def BlocksJoinedUptoSaid : Prop := blocksJoinedUptoRow.holds Try.pinned (OpenSpec.upto blocksJoinedSpec)

/-- 'cellarerlaw48.BlocksSame', WHERE WHAT IT READS IS OF BULK AT MOST 1048576: true; the input reads as it did. -/
def blocksSameUptoRow : OpenClaim := { program := "ytpdgjdnipkmocaa", sum := "4a515e3cd8f0b3ae7d44b0090a06b6a53e703d492b6a489af05006c030a7c852", func := "cellarer/cellarerlaw48.BlocksSame", spec := "blocksSame", unfollowed := true, recurses := true, apart := false, narrowed := true }
def BlocksSameUptoSaid : Prop := blocksSameUptoRow.holds Try.pinned (OpenSpec.upto blocksSameSpec)

/-- 'cellarerlaw48.BlocksOrder', WHERE WHAT IT READS IS OF BULK AT MOST 1048576: true; the input reads as it did. -/
def blocksOrderUptoRow : OpenClaim := { program := "ytpdgjdnipkmocaa", sum := "4a515e3cd8f0b3ae7d44b0090a06b6a53e703d492b6a489af05006c030a7c852", func := "cellarer/cellarerlaw48.BlocksOrder", spec := "blocksOrder", unfollowed := true, recurses := true, apart := false, narrowed := true }
def BlocksOrderUptoSaid : Prop := blocksOrderUptoRow.holds Try.pinned (OpenSpec.upto blocksOrderSpec)

/-- 'cellarerlaw48.BlocksMoves', WHERE WHAT IT READS IS OF BULK AT MOST 1048576: true; the input reads as it did. -/
def blocksMovesUptoRow : OpenClaim := { program := "ytpdgjdnipkmocaa", sum := "4a515e3cd8f0b3ae7d44b0090a06b6a53e703d492b6a489af05006c030a7c852", func := "cellarer/cellarerlaw48.BlocksMoves", spec := "blocksMoves", unfollowed := true, recurses := true, apart := false, narrowed := true }
def BlocksMovesUptoSaid : Prop := blocksMovesUptoRow.holds Try.pinned (OpenSpec.upto blocksMovesSpec)

end Rows
end Go.Proofs.Ytpdgjdnipkmocaa

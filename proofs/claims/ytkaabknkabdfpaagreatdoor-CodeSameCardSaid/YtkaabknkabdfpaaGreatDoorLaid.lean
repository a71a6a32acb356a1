/- A world in which the listed package-level variables hold what their initialisers lay: for the rows' witnesses. -/
import Derived.Test.YtkaabknkabdfpaaGreatDoorRows
import Derived.WalkKit
import Derived.ProofKit
import Derived.Deep.DeepHandedRow
import Derived.Deep.DeepWitnessRowRef
import Derived.Lib.LaidTab
set_option linter.unusedVariables false
set_option linter.unusedSimpArgs false
namespace Go.Proofs.YtkaabknkabdfpaaGreatDoor
open Go.ChangeShapes Go.WideShapes Go.ChangeAt Go.RowKit

/-- The cells of a table of numbers. -/
def tabCells (d : DataW Unit) : Array Value :=
  let one : DataW Unit → List Value := fun x => match x with
    | .lit (.int k n) => [.int k n]
    | _ => []
  let two : DataW Unit → List Value := fun x => match x with
    | .agg l => l.flatMap one
    | x => one x
  (match d with
    | .agg l => l.flatMap two
    | _ => []).toArray
def textOf (d : DataW Unit) : Value := match d with
  | .iface _ (.ptr (.agg [.lit (.string l)])) => .string ⟨l.toArray⟩
  | _ => .nilIface

/-- The settled world with a block for each of the two errors, the variables laid. -/
noncomputable def laidWorld (os : Os) : World :=
  let N := (World.settled Tryz.prog os).heap.size
  let w0 := World.holding Tryz.prog os ⟨#[.cells #[textOf Rows.laid_strconv_ErrSyntax] 363, .cells #[textOf Rows.laid_strconv_ErrRange] 363], #[], []⟩
  let put (h : Array Obj) (g : Nat) (cs : Array Value) : Array Obj := h.modify g fun
    | .cells _ t frozen => .cells cs t frozen
    | o => o
  let h0 := put w0.heap 0 (tabCells Rows.laid_unicode_utf8_first)
  let h1 := put h0 1 (tabCells Rows.laid_unicode_utf8_acceptRanges)
  let h3 := put h1 3 (tabCells Rows.laid_internal_strconv_uint64pow10)
  let h4 := put h3 4 (tabCells Rows.laid_math_bits_deBruijn32tab)
  let h5 := put h4 5 (tabCells Rows.laid_math_bits_deBruijn64tab)
  let h6 := put h5 6 #[.iface 361 (.pointer (some ⟨N, 0, none⟩))]
  let h7 := put h6 7 #[.iface 361 (.pointer (some ⟨N + 1, 0, none⟩))]
  { w0 with heap := h7 }

set_option maxRecDepth 1000000 in
theorem laid_met (os : Os) (args : Array Value) : laidMet Tryz.prog Rows.codeSameRow.laid ((laidWorld os).forCall (fun _ _ => 0) ⟨#[], args, []⟩).memory :=
  laidMet_of_run' 16 (by kernel_rfl) (by kernel_rfl)
end Go.Proofs.YtkaabknkabdfpaaGreatDoor

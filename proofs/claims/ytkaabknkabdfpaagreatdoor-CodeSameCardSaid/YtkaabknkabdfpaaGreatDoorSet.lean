/- The settings of the translation into the abstract machine's code. Printed by cod2.py. -/
import Derived.Test.YtkaabknkabdfpaaGreatDoorLibD
set_option linter.unusedVariables false
set_option linter.unusedSimpArgs false
set_option maxRecDepth 100000
namespace Go.Proofs.YtkaabknkabdfpaaGreatDoor
open Go.Ev

def puT (v : Nat) : Bool := Nat.blt v yb && (if exb ≤ v then ([] : List Nat).contains (v - exb) else !(([31, 33, 34, 35, 36, 40, 42, 43, 44, 45, 85, 93, 94, 96, 97, 98, 99, 100, 101, 102, 103, 104, 105, 106, 107, 150, 160, 166, 168, 173, 174, 175, 220, 229, 230, 231, 233, 234, 235, 264, 276, 277, 278, 283] : List Nat).contains v || ([] : List Nat).contains v))
def owT (f d : Nat) : Nat := match ([(12, 21, 0)] : List (Nat × Nat × Nat)).find? fun x => Nat.beq x.1 f && Nat.beq x.2.1 d with | some x => x.2.2 + 2 | none => match ([(14, 47), (14, 94), (93, 3), (31, 14), (33, 14)] : List (Nat × Nat)).any fun x => Nat.beq x.1 f && Nat.beq x.2 d with | true => 1 | false => 0
end Go.Proofs.YtkaabknkabdfpaaGreatDoor

/- The table with Parse as what it answers at the texts of awake; awake answers true. -/
import Derived.Test.YtkaabknkabdfpaaGreatDoorPa1
import Derived.Test.YtkaabknkabdfpaaGreatDoorPa2
import Derived.Test.YtkaabknkabdfpaaGreatDoorPa3
import Derived.Test.YtkaabknkabdfpaaGreatDoorPa4
set_option linter.unusedVariables false
set_option linter.unusedSimpArgs false
set_option maxRecDepth 1000000
namespace Go.Proofs.YtkaabknkabdfpaaGreatDoor
open Go.Ev Go.RowKit

def ptab : List (ByteArray × PV) := [(text1, back1), (text2, back2), (text3, back3), (text4, back4)]
def T (f : Nat) : Option Fun := bif Nat.beq f 14 then some (.prim true (primTab ptab)) else T0 f
theorem how0 : ∀ f c, T0 f = some (.code c) → compFn Tryz.prog puT owT f = some c := fun f c e => (ent0 e).2
theorem ent14 : Ent 14 (.prim true (primTab ptab)) :=
  ⟨by decide, primTab_ok tok0 how0 (by decide) ⟨Tryz.f14, Tryz.func14, by kernel_rfl, by kernel_rfl⟩ (by
    intro p hp
    simp only [ptab, List.mem_cons, List.not_mem_nil, or_false] at hp
    rcases hp with rfl | rfl | rfl | rfl
    · exact parse1
    · exact parse2
    · exact parse3
    · exact parse4), fun _ => rfl, fun q => Bool.noConfusion (q.symm.trans (show puT (14 + exb) = false by kernel_rfl))⟩
theorem tok : TOk Tryz.prog puT T := tok_of fun f x e => by
  unfold T at e
  cases h : Nat.beq f 14
  · rw [h] at e; exact ent0 e
  · rw [h] at e; cases e; rw [Nat.eq_of_beq_eq_true h]; exact ent14
theorem awake_ev : callW T (evC T 3000) 9 [] AH.zero = some (.bool true, AH.zero) := by kernel_rfl
end Go.Proofs.YtkaabknkabdfpaaGreatDoor

/- The table is what the program's functions do: code by code, and the library's functions by their contracts. Printed by tok.py. -/
import Derived.Test.YtbnfcdjlbabddaaCode
import Derived.Test.YtbnfcdjlbabddaaLibB
import Derived.Test.YtbnfcdjlbabddaaSort
import Derived.WalkKit
import Derived.WalkSpells
import Derived.WalkLawsBesides
set_option linter.unusedVariables false
set_option linter.unusedSimpArgs false
set_option maxRecDepth 100000
namespace Go.Proofs.Ytbnfcdjlbabddaa
open Go.Ev Go.RowKit

set_option maxHeartbeats 400000 in
theorem clone35_zero (A : Option Addr) (c : Nat) (w : World) : Calls Try.prog 35 #[.slice A 0 c] w fun e w' => Below w.heap.size w w' ∧ ∃ A', e = .returned (.slice A' 0 0) := by
  have hq : ∀ (w : World) (a : Option Addr) (n c n' c' : Nat), (binOp .eql 29 (.slice a n c) (.slice none n' c')).run Try.prog w = .ok (.bool a.isNone) w := fun w a n c n' c' => Lib.run_eql_slice_nil w _ _ a n c n' c' Try.underlying29
  cases A with
  | none =>
    go_enter Try.func35, Try.ntmps35
    go_wp2
    go_ret
    exact ⟨Below.refl _ _, _, rfl⟩
  | some a =>
    go_enter Try.func35, Try.ntmps35
    go_wp2
    go_ret
    exact ⟨(Below.refl _ w).alloc (Nat.le_refl _) _, _, rfl⟩
theorem own35 : PrimOk Try.prog false 100035 (primCloneO 1 8) := primCloneO_ok (f := 35) (by decide) (by decide) (by kernel_rfl) clone35_zero
theorem imm35 : PrimOk Try.prog true 35 (primCloneI 1 8) := primCloneI_ok (f := 35) (by decide) (by decide) (by kernel_rfl) clone35_zero

set_option maxHeartbeats 400000 in
theorem clone40_zero (A : Option Addr) (c : Nat) (w : World) : Calls Try.prog 40 #[.slice A 0 c] w fun e w' => Below w.heap.size w w' ∧ ∃ A', e = .returned (.slice A' 0 0) := by
  have hq : ∀ (w : World) (a : Option Addr) (n c n' c' : Nat), (binOp .eql 23 (.slice a n c) (.slice none n' c')).run Try.prog w = .ok (.bool a.isNone) w := fun w a n c n' c' => Lib.run_eql_slice_nil w _ _ a n c n' c' Try.underlying23
  cases A with
  | none =>
    go_enter Try.func40, Try.ntmps40
    go_wp2
    go_ret
    exact ⟨Below.refl _ _, _, rfl⟩
  | some a =>
    go_enter Try.func40, Try.ntmps40
    go_wp2
    go_ret
    exact ⟨(Below.refl _ w).alloc (Nat.le_refl _) _, _, rfl⟩
theorem own40 : PrimOk Try.prog false 100040 (primCloneO 2 16) := primCloneO_ok (f := 40) (by decide) (by decide) (by kernel_rfl) clone40_zero

theorem sort_ok : PrimOk Try.prog false 68 primSort :=
  primSort_ok ⟨Try.f68, Try.func68, by kernel_rfl, by kernel_rfl⟩ Try.slices_Sort_int_none Try.slices_Sort_int

theorem tok : TOk Try.prog puT T := by
  refine ⟨fun f c h => ⟨owT, ?_⟩, fun f p g h => ?_⟩
  · unfold T at h
    split at h
    · cases h; exact is3
    · cases h; exact is4
    · cases h; exact is5
    · cases h; exact is6
    · cases h; exact is7
    · cases h; exact is8
    · cases h; exact is9
    · cases h; exact is10
    · cases h; exact is11
    · cases h; exact is12
    · cases h; exact is13
    · cases h; exact is14
    · cases h; exact is15
    · cases h; exact is16
    · cases h; exact is17
    · cases h; exact is18
    · cases h; exact is19
    · cases h; exact is20
    · cases h; exact is21
    · cases h; exact is22
    · cases h; exact is23
    · cases h; exact is24
    · cases h; exact is25
    · cases h; exact is26
    · cases h; exact is27
    · cases h; exact is28
    · cases h; exact is29
    · cases h; exact is30
    · cases h; exact is31
    · cases h; exact is32
    · cases h; exact is33
    · cases h; exact is34
    · cases h; exact is36
    · cases h; exact is37
    · cases h; exact is38
    · cases h; exact is39
    · cases h; exact is41
    · cases h; exact is42
    · cases h; exact is43
    · cases h; exact is44
    · cases h; exact is45
    · cases h; exact is46
    · cases h; exact is47
    · cases h; exact is48
    · cases h; exact is49
    · cases h; exact is50
    · cases h; exact is51
    · cases h; exact is52
    · cases h; exact is53
    · cases h; exact is54
    · cases h; exact is55
    · cases h; exact is56
    · cases h; exact is57
    · cases h; exact is58
    · cases h; exact is59
    · cases h; exact is60
    · cases h; exact is61
    · cases h; exact is62
    · cases h; exact is63
    · cases h; exact is64
    · cases h; exact is65
    · cases h; exact is66
    · cases h; exact is67
    · cases h; exact is69
    · cases h; exact is70
    · cases h; exact is71
    · cases h; exact is72
    · cases h; exact is73
    · cases h; exact is74
    · cases h; exact is77
    · cases h; exact is78
    · cases h; exact is100025
    · cases h; exact is100067
    · cases h
    · cases h
    · cases h
    · cases h
    · cases h
  · unfold T at h
    split at h
    · cases h
    · cases h
    · cases h
    · cases h
    · cases h
    · cases h
    · cases h
    · cases h
    · cases h
    · cases h
    · cases h
    · cases h
    · cases h
    · cases h
    · cases h
    · cases h
    · cases h
    · cases h
    · cases h
    · cases h
    · cases h
    · cases h
    · cases h
    · cases h
    · cases h
    · cases h
    · cases h
    · cases h
    · cases h
    · cases h
    · cases h
    · cases h
    · cases h
    · cases h
    · cases h
    · cases h
    · cases h
    · cases h
    · cases h
    · cases h
    · cases h
    · cases h
    · cases h
    · cases h
    · cases h
    · cases h
    · cases h
    · cases h
    · cases h
    · cases h
    · cases h
    · cases h
    · cases h
    · cases h
    · cases h
    · cases h
    · cases h
    · cases h
    · cases h
    · cases h
    · cases h
    · cases h
    · cases h
    · cases h
    · cases h
    · cases h
    · cases h
    · cases h
    · cases h
    · cases h
    · cases h
    · cases h
    · cases h
    · cases h; exact ⟨sort_ok, fun q => absurd q (by decide), fun q => absurd q (by decide)⟩
    · cases h; exact ⟨imm35, fun _ => rfl, fun q => absurd q (by decide)⟩
    · cases h; exact ⟨own35, fun q => absurd q (by decide), fun _ => primCloneO_ext⟩
    · cases h; exact ⟨own40, fun q => absurd q (by decide), fun _ => primCloneO_ext⟩
    · cases h
end Go.Proofs.Ytbnfcdjlbabddaa

/- The table is what the program's functions do: code by code, and the library's functions by their contracts. Printed by tok.py. -/
import Derived.Test.YtpdgjdnipkmocaaCode
import Derived.Test.YtpdgjdnipkmocaaLibB
import Derived.Test.YtpdgjdnipkmocaaSort
import Derived.WalkKit
import Derived.WalkSpells
import Derived.WalkLawsBesides
set_option linter.unusedVariables false
set_option linter.unusedSimpArgs false
set_option maxRecDepth 100000
namespace Go.Proofs.Ytpdgjdnipkmocaa
open Go.Ev Go.RowKit

set_option maxHeartbeats 400000 in
theorem clone28_zero (A : Option Addr) (c : Nat) (w : World) : Calls Try.prog 28 #[.slice A 0 c] w fun e w' => Below w.heap.size w w' ∧ ∃ A', e = .returned (.slice A' 0 0) := by
  have hq : ∀ (w : World) (a : Option Addr) (n c n' c' : Nat), (binOp .eql 34 (.slice a n c) (.slice none n' c')).run Try.prog w = .ok (.bool a.isNone) w := fun w a n c n' c' => Lib.run_eql_slice_nil w _ _ a n c n' c' Try.underlying34
  cases A with
  | none =>
    go_enter Try.func28, Try.ntmps28
    go_wp2
    go_ret
    exact ⟨Below.refl _ _, _, rfl⟩
  | some a =>
    go_enter Try.func28, Try.ntmps28
    go_wp2
    go_ret
    exact ⟨(Below.refl _ w).alloc (Nat.le_refl _) _, _, rfl⟩
theorem own28 : PrimOk Try.prog false 100028 (primCloneO 8 112) := primCloneO_ok (f := 28) (by decide) (by decide) (by kernel_rfl) clone28_zero

set_option maxHeartbeats 400000 in
theorem clone30_zero (A : Option Addr) (c : Nat) (w : World) : Calls Try.prog 30 #[.slice A 0 c] w fun e w' => Below w.heap.size w w' ∧ ∃ A', e = .returned (.slice A' 0 0) := by
  have hq : ∀ (w : World) (a : Option Addr) (n c n' c' : Nat), (binOp .eql 38 (.slice a n c) (.slice none n' c')).run Try.prog w = .ok (.bool a.isNone) w := fun w a n c n' c' => Lib.run_eql_slice_nil w _ _ a n c n' c' Try.underlying38
  cases A with
  | none =>
    go_enter Try.func30, Try.ntmps30
    go_wp2
    go_ret
    exact ⟨Below.refl _ _, _, rfl⟩
  | some a =>
    go_enter Try.func30, Try.ntmps30
    go_wp2
    go_ret
    exact ⟨(Below.refl _ w).alloc (Nat.le_refl _) _, _, rfl⟩
theorem own30 : PrimOk Try.prog false 100030 (primCloneO 1 8) := primCloneO_ok (f := 30) (by decide) (by decide) (by kernel_rfl) clone30_zero
theorem imm30 : PrimOk Try.prog true 30 (primCloneI 1 8) := primCloneI_ok (f := 30) (by decide) (by decide) (by kernel_rfl) clone30_zero

set_option maxHeartbeats 400000 in
theorem clone64_zero (A : Option Addr) (c : Nat) (w : World) : Calls Try.prog 64 #[.slice A 0 c] w fun e w' => Below w.heap.size w w' ∧ ∃ A', e = .returned (.slice A' 0 0) := by
  have hq : ∀ (w : World) (a : Option Addr) (n c n' c' : Nat), (binOp .eql 22 (.slice a n c) (.slice none n' c')).run Try.prog w = .ok (.bool a.isNone) w := fun w a n c n' c' => Lib.run_eql_slice_nil w _ _ a n c n' c' Try.underlying22
  cases A with
  | none =>
    go_enter Try.func64, Try.ntmps64
    go_wp2
    go_ret
    exact ⟨Below.refl _ _, _, rfl⟩
  | some a =>
    go_enter Try.func64, Try.ntmps64
    go_wp2
    go_ret
    exact ⟨(Below.refl _ w).alloc (Nat.le_refl _) _, _, rfl⟩
theorem imm64 : PrimOk Try.prog true 64 (primCloneI 2 16) := primCloneI_ok (f := 64) (by decide) (by decide) (by kernel_rfl) clone64_zero

set_option maxHeartbeats 400000 in
theorem clone65_zero (A : Option Addr) (c : Nat) (w : World) : Calls Try.prog 65 #[.slice A 0 c] w fun e w' => Below w.heap.size w w' ∧ ∃ A', e = .returned (.slice A' 0 0) := by
  have hq : ∀ (w : World) (a : Option Addr) (n c n' c' : Nat), (binOp .eql 24 (.slice a n c) (.slice none n' c')).run Try.prog w = .ok (.bool a.isNone) w := fun w a n c n' c' => Lib.run_eql_slice_nil w _ _ a n c n' c' Try.underlying24
  cases A with
  | none =>
    go_enter Try.func65, Try.ntmps65
    go_wp2
    go_ret
    exact ⟨Below.refl _ _, _, rfl⟩
  | some a =>
    go_enter Try.func65, Try.ntmps65
    go_wp2
    go_ret
    exact ⟨(Below.refl _ w).alloc (Nat.le_refl _) _, _, rfl⟩
theorem own65 : PrimOk Try.prog false 100065 (primCloneO 1 24) := primCloneO_ok (f := 65) (by decide) (by decide) (by kernel_rfl) clone65_zero

set_option maxHeartbeats 400000 in
theorem clone66_zero (A : Option Addr) (c : Nat) (w : World) : Calls Try.prog 66 #[.slice A 0 c] w fun e w' => Below w.heap.size w w' ∧ ∃ A', e = .returned (.slice A' 0 0) := by
  have hq : ∀ (w : World) (a : Option Addr) (n c n' c' : Nat), (binOp .eql 25 (.slice a n c) (.slice none n' c')).run Try.prog w = .ok (.bool a.isNone) w := fun w a n c n' c' => Lib.run_eql_slice_nil w _ _ a n c n' c' Try.underlying25
  cases A with
  | none =>
    go_enter Try.func66, Try.ntmps66
    go_wp2
    go_ret
    exact ⟨Below.refl _ _, _, rfl⟩
  | some a =>
    go_enter Try.func66, Try.ntmps66
    go_wp2
    go_ret
    exact ⟨(Below.refl _ w).alloc (Nat.le_refl _) _, _, rfl⟩
theorem imm66 : PrimOk Try.prog true 66 (primCloneI 1 16) := primCloneI_ok (f := 66) (by decide) (by decide) (by kernel_rfl) clone66_zero

set_option maxHeartbeats 400000 in
theorem clone67_zero (A : Option Addr) (c : Nat) (w : World) : Calls Try.prog 67 #[.slice A 0 c] w fun e w' => Below w.heap.size w w' ∧ ∃ A', e = .returned (.slice A' 0 0) := by
  have hq : ∀ (w : World) (a : Option Addr) (n c n' c' : Nat), (binOp .eql 33 (.slice a n c) (.slice none n' c')).run Try.prog w = .ok (.bool a.isNone) w := fun w a n c n' c' => Lib.run_eql_slice_nil w _ _ a n c n' c' Try.underlying33
  cases A with
  | none =>
    go_enter Try.func67, Try.ntmps67
    go_wp2
    go_ret
    exact ⟨Below.refl _ _, _, rfl⟩
  | some a =>
    go_enter Try.func67, Try.ntmps67
    go_wp2
    go_ret
    exact ⟨(Below.refl _ w).alloc (Nat.le_refl _) _, _, rfl⟩
theorem own67 : PrimOk Try.prog false 100067 (primCloneO 4 48) := primCloneO_ok (f := 67) (by decide) (by decide) (by kernel_rfl) clone67_zero

theorem sort_ok : PrimOk Try.prog false 33 primSort :=
  primSort_ok ⟨Try.f33, Try.func33, by kernel_rfl, by kernel_rfl⟩ Try.slices_Sort_int_none Try.slices_Sort_int

theorem tok : TOk Try.prog puT T := by
  refine ⟨fun f c h => ⟨owT, ?_⟩, fun f p g h => ?_⟩
  · unfold T at h
    split at h
    · cases h; exact is3
    · cases h; exact is4
    · cases h; exact is5
    · cases h; exact is6
    · cases h; exact is7
    · cases h; exact is8
    · cases h; exact is9
    · cases h; exact is10
    · cases h; exact is11
    · cases h; exact is12
    · cases h; exact is13
    · cases h; exact is14
    · cases h; exact is15
    · cases h; exact is16
    · cases h; exact is17
    · cases h; exact is18
    · cases h; exact is19
    · cases h; exact is20
    · cases h; exact is21
    · cases h; exact is22
    · cases h; exact is23
    · cases h; exact is24
    · cases h; exact is25
    · cases h; exact is26
    · cases h; exact is27
    · cases h; exact is29
    · cases h; exact is31
    · cases h; exact is32
    · cases h; exact is34
    · cases h; exact is35
    · cases h; exact is36
    · cases h; exact is37
    · cases h; exact is38
    · cases h; exact is40
    · cases h; exact is41
    · cases h; exact is42
    · cases h; exact is43
    · cases h; exact is44
    · cases h; exact is47
    · cases h; exact is48
    · cases h; exact is49
    · cases h; exact is50
    · cases h; exact is51
    · cases h; exact is52
    · cases h; exact is53
    · cases h; exact is54
    · cases h; exact is57
    · cases h; exact is58
    · cases h; exact is59
    · cases h; exact is60
    · cases h; exact is61
    · cases h; exact is62
    · cases h; exact is63
    · cases h; exact is69
    · cases h; exact is70
    · cases h; exact is71
    · cases h; exact is72
    · cases h; exact is73
    · cases h; exact is74
    · cases h; exact is75
    · cases h; exact is76
    · cases h; exact is88
    · cases h; exact is89
    · cases h; exact is90
    · cases h; exact is91
    · cases h; exact is92
    · cases h; exact is93
    · cases h; exact is94
    · cases h; exact is101
    · cases h; exact is102
    · cases h; exact is103
    · cases h; exact is104
    · cases h; exact is105
    · cases h; exact is100015
    · cases h; exact is100019
    · cases h; exact is100032
    · cases h; exact is100039
    · cases h; exact is100041
    · cases h; exact is100045
    · cases h; exact is100046
    · cases h; exact is100068
    · cases h
    · cases h
    · cases h
    · cases h
    · cases h
    · cases h
    · cases h
    · cases h
    · cases h
  · unfold T at h
    split at h
    · cases h
    · cases h
    · cases h
    · cases h
    · cases h
    · cases h
    · cases h
    · cases h
    · cases h
    · cases h
    · cases h
    · cases h
    · cases h
    · cases h
    · cases h
    · cases h
    · cases h
    · cases h
    · cases h
    · cases h
    · cases h
    · cases h
    · cases h
    · cases h
    · cases h
    · cases h
    · cases h
    · cases h
    · cases h
    · cases h
    · cases h
    · cases h
    · cases h
    · cases h
    · cases h
    · cases h
    · cases h
    · cases h
    · cases h
    · cases h
    · cases h
    · cases h
    · cases h
    · cases h
    · cases h
    · cases h
    · cases h
    · cases h
    · cases h
    · cases h
    · cases h
    · cases h
    · cases h
    · cases h
    · cases h
    · cases h
    · cases h
    · cases h
    · cases h
    · cases h
    · cases h
    · cases h
    · cases h
    · cases h
    · cases h
    · cases h
    · cases h
    · cases h
    · cases h
    · cases h
    · cases h
    · cases h
    · cases h
    · cases h
    · cases h
    · cases h
    · cases h
    · cases h
    · cases h
    · cases h
    · cases h
    · cases h; exact ⟨sort_ok, fun q => absurd q (by decide), fun q => absurd q (by decide)⟩
    · cases h; exact ⟨imm30, fun _ => rfl, fun q => absurd q (by decide)⟩
    · cases h; exact ⟨imm64, fun _ => rfl, fun q => absurd q (by decide)⟩
    · cases h; exact ⟨imm66, fun _ => rfl, fun q => absurd q (by decide)⟩
    · cases h; exact ⟨own28, fun q => absurd q (by decide), fun _ => primCloneO_ext⟩
    · cases h; exact ⟨own30, fun q => absurd q (by decide), fun _ => primCloneO_ext⟩
    · cases h; exact ⟨own65, fun q => absurd q (by decide), fun _ => primCloneO_ext⟩
    · cases h; exact ⟨own67, fun q => absurd q (by decide), fun _ => primCloneO_ext⟩
    · cases h
end Go.Proofs.Ytpdgjdnipkmocaa

/- The row of the law LiveMoves: out of what the evaluator says of its code. -/
import Derived.Test.YtbnfcdjlbabddaaRows
import Derived.Test.YtbnfcdjlbabddaaLibB
import Derived.Test.YtbnfcdjlbabddaaM7
import Derived.WalkKit
import Derived.ProofKit
import Derived.OpenShut
import Derived.ShutString
import Derived.ChangeOld
import Derived.Below
import Derived.JoinedCond
set_option linter.unusedVariables false
set_option linter.unusedSimpArgs false
namespace Go.Proofs.Ytbnfcdjlbabddaa.liveMoves
open Go.ChangeShapes Go.WideShapes Go.ChangeAt Go.RowKit Go.Ev
theorem shFun_is : shT Try.prog 8 26 = some shFun := by kernel_rfl
theorem own : ownKnob Try.prog.godebug = none := by kernel_rfl
theorem laidOut : laidOutB Try.prog = true := by kernel_rfl
theorem bulk (H : Type) : Bulk (Rows.uptoBulk (H := H)) := by
  have all : ∀ l : List (DataW H), sumB Rows.uptoBulk l = Rows.uptoBulkAll l := fun l => by
    induction l with
    | nil => simp [sumB, Rows.uptoBulkAll]
    | cons a l ih => simp only [sumB, Rows.uptoBulkAll, ih]
  have one : ∀ d : DataW H, 1 ≤ Rows.uptoBulk d := fun d => by
    cases d with
    | lit l => cases l <;> simp [Rows.uptoBulk]
    | _ => simp [Rows.uptoBulk]
  have len : ∀ l : List (DataW H), l.length ≤ Rows.uptoBulkAll l := fun l => by
    induction l with
    | nil => simp
    | cons a l ih => have := one a; simp only [List.length_cons, Rows.uptoBulkAll]; omega
  refine ⟨fun b => ?_, fun es sp => ?_, fun es sp => ?_, fun ps => ?_⟩
  · simp only [Rows.uptoBulk, Array.length_toList]
    exact Nat.le_succ_of_le (Nat.le_refl _)
  · have := len es; simp only [Rows.uptoBulk]; omega
  · rw [all]; simp only [Rows.uptoBulk]; omega
  · rw [all]; simp only [Rows.uptoBulk]; omega
set_option maxRecDepth 100000 in
theorem lifted (os : Os) (started : os.Started) (H : Type) (enc : TypeId × Value → H) (F : Stop.Interp) :
    ReturnsInHanded {} Try.checked os 5 .any ((Rows.OpenSpec.upto Rows.liveMovesSpec).pre6 enc Try.prog Try.f5 Rows.liveMovesUptoRow.domain false) (((Rows.OpenSpec.upto Rows.liveMovesSpec).at F).post enc Try.prog Try.f5 false true false false) := by
  refine returnsInHanded_of_cond (C := Try.checked) (s := Rows.OpenSpec.upto Rows.liveMovesSpec) (k := Rows.uptoSmall) rfl own started (by kernel_rfl) Try.func5
    (OpenSpec.witness (enc := enc) (C := Try.checked) (s := Rows.OpenSpec.upto Rows.liveMovesSpec) (k := Rows.uptoSmall) rfl false ⟨#[], #[.agg #[.string ByteArray.empty, .int .i64 0, .int .i64 0, .slice none 0 0, .slice none 0 0, .int .i64 0, .bool false]], []⟩ 8 (by kernel_rfl) (by kernel_rfl) (by kernel_rfl)
      (x := ([.agg [.lit (.string []), .lit (.int .i64 0), .lit (.int .i64 0), .nil, .nil, .lit (.int .i64 0), .lit (.bool false)]], [], [])) (by kernel_rfl) rfl (by kernel_rfl)) ?_
  intro W base args ds gs before hval0 hW _ hk _
  have hval : ∀ (j : Nat) t v, Try.f5.params[j]? = some t → args[j]? = some v → Value.okWide Try.prog W .any base t v := hval0
  have hW' := hW
  obtain ⟨p, q, hA0, hV, rfl, hfz, hnd⟩ := hW
  have hA : DataW.TrodAll enc Try.prog W 0 (fun _ => true) true Try.f5.params.toList args.toList ds p := hA0
  rw [Try.params5] at hA hval
  obtain ⟨v0, vs0, d0, ds0, p0, q0, hargs, rfl, rfl, h0, r0⟩ := trodAll_cons hA
  obtain ⟨rfl, rfl, rfl⟩ := trodAll_nil r0
  obtain rfl : args = #[v0] := by cases args; simp_all
  obtain ⟨rfl, rfl⟩ := trodVars_none hV
  have k0 := h0
  have lt0 : ∀ x ∈ p0, x.block < W.heap.size := by obtain ⟨m, hm⟩ := k0; exact DataW.trod_lt m _ _ _ hm
  obtain ⟨x0, o0, z0⟩ := arg_small (bulk H) Try.underlying26 shFun_is (hval 0 26 v0 rfl rfl) h0
  have hbd : Rows.uptoBulkAll [d0] ≤ 1048576 := of_decide_eq_true hk
  simp only [Rows.uptoBulkAll] at hbd
  obtain ⟨g, hg⟩ := law_liveMoves x0 ⟨o0.1, shFun.small_mono _ _ (by omega) _ o0.2⟩
  refine (calls_true tok (VRL_one z0) hg).mono fun e W' ⟨he, bel⟩ => ?_
  subst he
  exact ⟨_, rfl, _, _, _, [], _, [], hW', trodAll_mk1 (shut_bool Try.underlying4 _), (trodAll_cons_mk (Below.trod laidOut (by kernel_rfl) (of_decide_eq_true (by kernel_rfl)) k0 bel lt0) trodAll_mk0), rfl, bel.frame _, fun h => by cases h⟩
theorem over : Rows.liveMovesUptoRow.holds Try.pinned (Rows.OpenSpec.upto Rows.liveMovesSpec) :=
  OpenClaim.holds_of_cond 5 Try.f5 rfl rfl rfl rfl rfl rfl rfl ⟨rfl, rfl, rfl, rfl, rfl⟩ rfl rfl rfl rfl rfl (by kernel_rfl) Try.func5 (by kernel_rfl)
    (of_decide_eq_true (by kernel_rfl)) (by unfold Func.isWrapper; first | (rw [if_pos (by decide +kernel)]; kernel_rfl) | (rw [if_neg (by decide +kernel)]; exact ⟨rfl, rfl⟩))
    (fun os started H enc _ F => lifted os started H enc F)
theorem proved : Rows.LiveMovesUptoSaid := over
end Go.Proofs.Ytbnfcdjlbabddaa.liveMoves
namespace Go.Proofs.Ytbnfcdjlbabddaa
/-- The row, under a short name, for the claim. -/
theorem liveMoves_holds : Rows.LiveMovesUptoSaid := liveMoves.proved
#print axioms liveMoves_holds
end Go.Proofs.Ytbnfcdjlbabddaa

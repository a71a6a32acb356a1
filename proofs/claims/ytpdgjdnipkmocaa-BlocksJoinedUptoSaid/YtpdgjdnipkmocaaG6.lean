/- 'Tidy', the program's and the reference's. -/
import Derived.Test.YtpdgjdnipkmocaaG5
set_option linter.unusedVariables false
set_option linter.unusedSimpArgs false
namespace Go.Proofs.Ytpdgjdnipkmocaa
open Go.Ev

def zeroP : LProc := ⟨⟨#[]⟩, [], 0, ⟨[], ⟨#[]⟩, [], ⟨#[]⟩⟩, [], false⟩
def FitR (p : LProc) : Prop := ∀ b ∈ p.blocks, ∀ x ∈ b.regs, x.pot.length ≤ 2000000
/-- The limits of a procedure. -/
def Fit (p : LProc) : Prop := FitP p ∧ FitS p ∧ FitR p

theorem body41 : c41.body = c100041.body := rfl
theorem res41 : c41.res = c100041.res := rfl

section
variable {o : Bool} {h : AH} {d : Option Nat} {r : List COper} {κ : List KF} {s : Fr} {Q : Fr → AH → Prop}
theorem tidy_p (p : LProc) (hp : Fit p) (hl : laid p = true) : Pure T 41 [.agg (Enc.c p)] (.agg (Enc.c (tidyP p))) false := by
  refine ⟨c41, rfl, rfl, ?_⟩
  rw [body41]
  refine tidy_w p (S := fun _ => False) (m0 := 5) (v1 := sl p.params) (v3 := sl p.sig.params) (v5 := sl p.sig.result) (v7 := sl p.blocks) (by simp) (Rep.data (by simp) rs_LVar _) (Rep.data (by simp) (rs_sl (by simp) rs_str) _) (Rep.data (by simp) rs_str _) (Rep.data (by simp) rs_LBlock _) hp.1 hp.2.1 hp.2.2 hl (Nat.le_refl _) (fun s' h' v e1 e2 => ?_)
  rw [res41]
  exact ⟨v, e1, e2.snap, fun q => by cases q⟩
theorem tidy_r (p : LProc) (hp : Fit p) (hl : laid p = true) : pureK T 41 (some [.agg [PV.str p.name, sl p.params, PV.int .i64 p.result, sl p.sig.params, PV.str p.sig.base, sl p.sig.result, PV.str p.sig.rest, sl p.blocks, PV.bool p.extern]]) false h d r κ s Q = WR T r κ (Fr.put s d (.agg (Enc.c (tidyP p)))) h Q := pureK_eq (tidy_p p hp hl) (.inr rfl)

theorem Tidy_p (p : LProc) (hp : Fit p) : Pure T 19 [.agg (Enc.c p)] (if laid p = true then .tup [.agg (Enc.c (tidyP p)), .int .i64 0] else .tup [.agg (Enc.c zeroP), .int .i64 22]) false := by
  refine ⟨c19, rfl, rfl, ?_⟩
  simp [c19, laid_r p hp.1]
  refine condS_split (fun hc => ?_) (fun hc => ?_) <;> simp at hc
  · simp [hc, zeroP]
    exact ⟨rfl, rfl, rfl, rfl⟩
  · simp [hc, tidy_r p hp hc]
end
end Go.Proofs.Ytpdgjdnipkmocaa

/- Comparison of procedures: the reference's. -/
import Derived.Test.YtkaabknkabdfpaaGreatDoorS1
set_option linter.unusedVariables false
set_option linter.unusedSimpArgs false
namespace Go.Proofs.YtkaabknkabdfpaaGreatDoor
open Go.Ev

section
variable {o : Bool} {h : AH} {d : Option Nat} {r : List COper} {κ : List KF} {s : Fr} {Q : Fr → AH → Prop}

/-- What of a procedure is compared. -/
noncomputable def normP (p : LProc) := (p.name, p.params, p.result, p.sig, p.blocks.map normB, p.extern)

/-- The limits of what is compared. -/
def FitC (p : LProc) : Prop := p.params.length ≤ 10000000 ∧ p.sig.params.length ≤ 10000000 ∧ (∀ l ∈ p.sig.params, l.length ≤ 10000000) ∧ p.sig.result.length ≤ 10000000 ∧ p.blocks.length ≤ 1000 ∧ ∀ b ∈ p.blocks, FitB b ∧ ∀ x ∈ b.regs, x.pot.length ≤ 10000000

theorem sameProc_p (a b : LProc) (ha : FitC a) (hb : FitC b) : Pure T 47 [.agg (Enc.c a), .agg (Enc.c b)] (.bool (eqv (normP a) (normP b))) true := by
  refine ⟨c47, rfl, rfl, ?_⟩
  obtain ⟨a1, a2, a3, a4, a5, a6⟩ := ha
  obtain ⟨b1, b2, b3, b4, b5, b6⟩ := hb
  simp [c47, sameSig_r a.sig b.sig a2 a3 a4]
  have nf : (a.name ≠ b.name ∨ a.result ≠ b.result ∨ a.extern ≠ b.extern ∨ a.params.length ≠ b.params.length ∨ a.blocks.length ≠ b.blocks.length ∨ a.sig ≠ b.sig) → eqv (normP a) (normP b) = false := fun q => eqv_ne fun e => by
    simp only [normP, Prod.mk.injEq] at e
    obtain ⟨e1, e2, e3, e4, e5, e6⟩ := e
    have e5' := congrArg List.length e5
    simp only [List.length_map] at e5'
    rcases q with q | q | q | q | q | q
    · exact q e1
    · exact q e3
    · exact q e6
    · exact q (by rw [e2])
    · exact q e5'
    · exact q e4
  (repeat' ((first | refine gdS_split (fun hc => ?_) (fun hc => ?_) | refine condS_split (fun hc => ?_) (fun hc => ?_)) <;> (try simp at hc) <;> (try simp [sameSig_r a.sig b.sig a2 a3 a4])))
  all_goals first
    | (have := nf (.inl (by assumption))
       simp [this]; done)
    | (have := nf (.inr (.inl (by assumption)))
       simp [this]; done)
    | (have := nf (.inr (.inr (.inl (by assumption))))
       simp [this]; done)
    | (have := nf (.inr (.inr (.inr (.inl (by omega)))))
       simp [this]; done)
    | (have := nf (.inr (.inr (.inr (.inr (.inl (by omega))))))
       simp [this]; done)
    | (have := nf (.inr (.inr (.inr (.inr (.inr fun e => by rw [e, eqv_refl] at hc; cases hc)))))
       simp [this]; done)
    | skip
  have q1 : a.name = b.name := by assumption
  have q2 : a.result = b.result := by assumption
  have q3 : a.extern = b.extern := by assumption
  have q4 : a.params.length = b.params.length := by omega
  have q5 : a.blocks.length = b.blocks.length := by omega
  have q6 : a.sig = b.sig := eqv_iff.1 (by assumption)
  refine WK_loop tgrow (fun k s h => s 5 = .int .i64 (k : Nat) ∧ a.params.take k = b.params.take k) a.params.length w47_0 (by decide) (by simp) ?_
  rintro k s' h' hk ⟨e5, hj⟩ hs hg
  have f2 : s' 2 = .pi (Enc.c a) := (hs 2 (by decide)).trans (by simp)
  have f3 : s' 3 = .pi (Enc.c b) := (hs 3 (by decide)).trans (by simp)
  simp [c47_0, e5, f2, f3]
  refine condS_split (fun hkl => ?_) (fun hkl => ?_) <;> simp at hkl
  · have hkl' : k < b.params.length := by omega
    have hk2 : k < 9223372036854775807 := by omega
    simp [e5, f2, f3, evIdx_nat, rds_ptr, hkl, hkl']
    have hdec : (decide (a.params[k].type = b.params[k].type) && decide (a.params[k].read = b.params[k].read)) = decide (a.params[k].type = b.params[k].type ∧ a.params[k].read = b.params[k].read) := by simp
    by_cases hq : a.params[k] = b.params[k]
    · have := take_eq_succ hj hkl hkl' hq
      have h1 : a.params[k].type = b.params[k].type := by rw [hq]
      have h2 : a.params[k].read = b.params[k].read := by rw [hq]
      simp [h1, h2, e5, hk2, hkl, this]
    · have hn : a.params[k].type = b.params[k].type → ¬ a.params[k].read = b.params[k].read := fun e1 e2 => by
        apply hq
        generalize a.params[k] = x at *
        generalize b.params[k] = y at *
        cases x; cases y
        simp only at e1 e2
        rw [e1, e2]
      have : eqv (normP a) (normP b) = false := eqv_ne fun e => by
        simp only [normP, Prod.mk.injEq] at e
        exact hq (by simp only [e.2.1])
      by_cases h1 : a.params[k].type = b.params[k].type
      · simp [h1, hn h1, this]
      · simp [h1, this]
  have hkn : k = a.params.length := by omega
  subst hkn
  have ep := eq_of_takes hj q4
  simp
  refine WK_loop tgrow (fun k s h => s 6 = .int .i64 (k : Nat) ∧ (a.blocks.map normB).take k = (b.blocks.map normB).take k) a.blocks.length w47_1 (by decide) (by simp) ?_
  rintro k s2 h2 hk ⟨e6, hj⟩ hs2 hg2
  have f2 : s2 2 = .pi (Enc.c a) := (hs2 2 (by decide)).trans (by simp [f2])
  have f3 : s2 3 = .pi (Enc.c b) := (hs2 3 (by decide)).trans (by simp [f3])
  simp [c47_1, e6, f2, f3]
  refine condS_split (fun hkl => ?_) (fun hkl => ?_) <;> simp at hkl
  · have hkl' : k < b.blocks.length := by omega
    have hk2 : k < 9223372036854775807 := by omega
    have ma := a6 _ (List.getElem_mem hkl)
    have mb := b6 _ (List.getElem_mem hkl')
    simp [e6, f2, f3, evIdx_nat, rds_ptr, hkl, hkl', sameBlock_r a.blocks[k] b.blocks[k] ma.1 (by have := mb.1.2.1; omega) ma.2 mb.2]
    refine condS_split (fun hq => ?_) (fun hq => ?_) <;> simp at hq
    · have : eqv (normP a) (normP b) = false := eqv_ne fun e => by
        simp only [normP, Prod.mk.injEq] at e
        have h5 := e.2.2.2.2.1
        have h6 : (a.blocks.map normB)[k]'(by simpa using hkl) = (b.blocks.map normB)[k]'(by simpa using hkl') := by simp only [h5]
        rw [List.getElem_map, List.getElem_map] at h6
        rw [h6, eqv_refl] at hq; cases hq
      simp [this]
    · have := take_eq_succ hj (by simpa using hkl) (by simpa using hkl') (by simpa using eqv_iff.1 hq)
      simp [e6, hk2, hkl]
      simpa using this
  have hkn : k = a.blocks.length := by omega
  subst hkn
  have eb : a.blocks.map normB = b.blocks.map normB := eq_of_takes (by simpa using hj) (by simpa using q5)
  have : eqv (normP a) (normP b) = true := by rw [eqv_iff, normP, normP, q1, q2, q3, q6, ep, eb]
  simp [this]
theorem sameProc_r (a b : LProc) (ha : FitC a) (hb : FitC b) : pureK T 47 (some [.agg [PV.str a.name, sl a.params, PV.int .i64 a.result, sl a.sig.params, PV.str a.sig.base, sl a.sig.result, PV.str a.sig.rest, sl a.blocks, PV.bool a.extern], .agg [PV.str b.name, sl b.params, PV.int .i64 b.result, sl b.sig.params, PV.str b.sig.base, sl b.sig.result, PV.str b.sig.rest, sl b.blocks, PV.bool b.extern]]) o h d r κ s Q = WR T r κ (Fr.put s d (.bool (eqv (normP a) (normP b)))) h Q := pureK_eq (sameProc_p a b ha hb) (.inl rfl)

end
end Go.Proofs.YtkaabknkabdfpaaGreatDoor

/- What 'few' and 'laid' compute, the program's and the reference's. -/
import Derived.Test.YtpdgjdnipkmocaaF1
set_option linter.unusedVariables false
set_option linter.unusedSimpArgs false
namespace Go.Proofs.Ytpdgjdnipkmocaa
open Go.Ev

def fewI (x : LInstr) : Bool := x.args.length ≤ 20 && x.more.length ≤ 20 && x.jump.length ≤ 20
def fewB (b : LBlock) : Bool := b.code.length ≤ 20 && b.regs.length ≤ 40 && b.code.all fewI
def fewP (p : LProc) : Bool := p.blocks.length ≤ 20 && p.params.length ≤ 20 && p.sig.params.length ≤ 20 && p.blocks.all fewB

theorem few_in (l : List LInstr) (hl : l.length ≤ 20) {κ : List KF} {s : Fr} {h : AH} {Q : Fr → AH → Prop} (e42 : s 42 = sl l) (e43 : s 43 = .int .i64 l.length) (e44 : s 44 = .int .i64 0) (hlw : h.lo ≤ h.nx)
   (h1 : l.all fewI = true → ∀ s' h', (∀ t, t ∉ w10_1 → s' t = s t) → Grow h h' → WK T .skip κ s' h' Q)
   (h2 : l.all fewI = false → ∀ s' h', s' 2 = .bool false → Q s' h') : WK T (.loop c10_1) (.block 2 :: κ) s h Q := by
  refine WK_range tgrow (fun k s h => ∀ x ∈ l.take k, fewI x = true) l.length w10_1 rfl (by decide) e44 e43 (by omega) (by decide) (fun _ _ _ _ j _ => j) (by simp) ?_ ?_
  · intro k s' h' hk hj hi hs hg
    have f42 : s' 42 = sl l := (hs 42 (by decide)).trans e42
    have hlw' : h'.lo ≤ h'.nx := hg.low hlw
    simp [hi, f42, evIdx_nat, rds_ptr, hk, hlw']
    (repeat' ((first | refine gdS_split (fun hc => ?_) (fun hc => ?_) | refine condS_split (fun hc => ?_) (fun hc => ?_)) <;> (try simp at hc) <;> (try simp [hc, hi])))
    all_goals first
      | (refine h2 (all_fails hk ?_) _ _ (by simp)
         simp only [fewI, Bool.and_eq_false_iff, decide_eq_false_iff_not]
         omega)
      | (refine mem_take_succ hk hj ?_
         simp only [fewI, Bool.and_eq_true, decide_eq_true_eq]
         omega)
  · intro s' h' hj hs hg
    rw [List.take_length] at hj
    exact h1 (List.all_eq_true.2 hj) s' h' hs hg

theorem few_p (p : LProc) : Pure T 10 [.agg (Enc.c p)] (.bool (fewP p)) true := by
  refine ⟨c10, rfl, rfl, ?_⟩
  simp [c10]
  (repeat' ((first | refine gdS_split (fun hc => ?_) (fun hc => ?_) | refine condS_split (fun hc => ?_) (fun hc => ?_)) <;> (try simp at hc) <;> (try simp [hc])))
  all_goals first
    | (have : fewP p = false := by
         unfold fewP
         simp only [Bool.and_eq_false_iff, decide_eq_false_iff_not]
         omega
       simp [this]; done)
    | skip
  refine WK_range tgrow (fun k s h => ∀ x ∈ p.blocks.take k, fewB x = true) p.blocks.length w10_0 rfl (by decide) (by simp) (by simp) (by omega) (by decide) (fun _ _ _ _ j _ => j) (by simp) ?_ ?_
  · intro k s' h' hk hj hi hs hg
    have f25 : s' 25 = sl p.blocks := (hs 25 (by decide)).trans (by simp)
    have hlw' : h'.lo ≤ h'.nx := hg.low (by simp)
    have bad : fewB p.blocks[k] = false → fewP p = false := fun q => by
      unfold fewP
      rw [all_fails hk q]; simp
    simp [hi, f25, evIdx_nat, rds_ptr, hk, hlw']
    (repeat' ((first | refine gdS_split (fun hc => ?_) (fun hc => ?_) | refine condS_split (fun hc => ?_) (fun hc => ?_)) <;> (try simp at hc) <;> (try simp [hc, hi])))
    all_goals first
      | (have : fewB p.blocks[k] = false := by
           unfold fewB
           simp only [Bool.and_eq_false_iff, decide_eq_false_iff_not]
           omega
         simp [bad this]; done)
      | skip
    refine few_in p.blocks[k].code (by omega) (by simp) (by simp) (by simp) (by simp; omega) (fun q s2 h2 hs2 hg2 => ?_) (fun q s2 h2 e2 => ?_)
    · have e27 : s2 27 = .int .i64 k := (hs2 27 (by decide)).trans (by simp [hi])
      simp [e27]
      refine mem_take_succ hk hj ?_
      simp only [fewB, Bool.and_eq_true, decide_eq_true_eq]
      exact ⟨by omega, q⟩
    · have : fewB p.blocks[k] = false := by
        unfold fewB; rw [q]; simp
      simp [e2, bad this]
  · intro s' h' hj hs hg
    rw [List.take_length] at hj
    have : fewP p = true := by
      simp only [fewP, Bool.and_eq_true, decide_eq_true_eq]
      exact ⟨by omega, List.all_eq_true.2 hj⟩
    simp [this]
end Go.Proofs.Ytpdgjdnipkmocaa

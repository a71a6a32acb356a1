/- The law BlocksOrder, evaluated. -/
import Derived.Test.YtpdgjdnipkmocaaP2
set_option linter.unusedVariables false
set_option linter.unusedSimpArgs false
namespace Go.Proofs.Ytpdgjdnipkmocaa
open Go.Ev

theorem BlocksOrder_p (p : LProc) (hs : Smc.sm 1048576 p) : Pure T 8 [.agg (Enc.c p)] (.bool true) true := by
  refine ⟨c8, rfl, rfl, ?_⟩
  simp [c8, few_r p]
  cases hf : fewP p
  · simp [awake_r]
  have hp := fit_of hf hs
  have ht := tidyP_fit hp
  simp [Tidy_r p hp]
  cases hl : laid p
  · simp [zeroP, hl, reached_r p hp.1, reached_not hl, Same_r p p hp hp, sameP, awake_r]
  have htl := tidy_laid hl
  have hct := fitC_of ht
  have e1 := fun {h d r κ s Q} => Tidy_r (h := h) (d := d) (r := r) (κ := κ) (s := s) (Q := Q) (tidyP p) ht
  rw [htl, if_pos rfl, tidy_tidy hl] at e1
  have e2 := fun {o h d r κ s Q} => reached_r (o := o) (h := h) (d := d) (r := r) (κ := κ) (s := s) (Q := Q) (tidyP p) ht.1
  simp only [tidy_reached hl] at e2
  have e3 := fun {o h d r κ s Q} => Same_r (o := o) (h := h) (d := d) (r := r) (κ := κ) (s := s) (Q := Q) (tidyP p) p ht hp
  simp only [same_tidy hl] at e3
  simp [hl, e1, e2, e3, sameProc_r (tidyP p) (tidyP p) hct hct, eqv_refl, nums_len, tidy_len, reached_r p hp.1, reached_order]
  refine WK_range tgrow (fun k s h => True) (order p).length w8_0 rfl (by decide) (by simp) (by simp [nums_len]) (by have := (order_nums p).length; have := hp.1.1; omega) (by decide) (fun _ _ _ _ j _ => j) trivial ?_ ?_
  · intro k s' h' hk _ hi hs hg
    have f71 : s' 71 = sl (nums (order p).length) := (hs 71 (by decide)).trans (by simp)
    have hk' : k < (nums (order p).length).length := by rw [nums_len]; exact hk
    have hget : (nums (order p).length)[k] = (k : Int) := by simp [nums]
    simp [hi, f71, evIdx_nat, rd1_ptr, hk', hget]
  · intro s' h' _ hs hg
    simp [awake_r]

theorem law_blocksOrder (x : shProc.den) (o : shProc.ok x ∧ shProc.small 1048576 x) : ∃ g, CE T 8 [.agg (shProc.pv x)] AH.zero (.bool true) g := by
  rw [mkProc_c]
  exact ⟨AH.zero, (BlocksOrder_p (mkProc x) (mkProc_sm x o.2)).ce (by simp) (.inl rfl)⟩
end Go.Proofs.Ytpdgjdnipkmocaa

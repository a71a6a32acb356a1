/- The law AssignChecks, evaluated. -/
import Derived.Test.YtbnfcdjlbabddaaV12
set_option linter.unusedVariables false
set_option linter.unusedSimpArgs false
namespace Go.Proofs.Ytbnfcdjlbabddaa
open Go.Ev

theorem AssignChecks_p (f : LFun) (hsm : f.code.length ≤ 1048576) (regs : List Int) (hb : ∀ x ∈ regs, -9223372036854775808 ≤ x) : Pure T 7 [.agg (Enc.c f), sl regs] (.bool true) true := by
  refine ⟨c7, rfl, rfl, ?_⟩
  simp [c7, awake46_r, few46_r f hsm]
  cases hfw : few46 f
  · simp
  have hf := few46_fit hfw
  by_cases h70 : (70 : Int) < (regs.length : Int)
  · simp [h70]
  simp [h70]
  refine WK_loop tgrow (fun k s' h' => s' 5 = .int .i64 (k : Nat) ∧ ∀ x ∈ regs.take k, ¬ 1073741824 < x) regs.length w7_0 (by decide) ⟨by simp, by simp⟩ ?_
  rintro k s1 h1 hk ⟨e5, hj⟩ hs1 hg1
  have f1 : s1 1 = sl regs := (hs1 1 (by decide)).trans (by simp)
  have f2 : s1 2 = .pi (Enc.c f) := (hs1 2 (by decide)).trans (by simp)
  clear hs1 hg1
  have hk2 : k < 9223372036854775807 := by omega
  by_cases hkl : k < regs.length
  · by_cases hc : 1073741824 < regs[k]
    · simp [c7_0, e5, f1, hkl, evIdx_nat, rd1_ptr, hc]
    · simp [c7_0, e5, f1, hkl, evIdx_nat, rd1_ptr, hc, hk2]
      have := mem_take_succ hkl hj hc
      intro x hx
      have := this x hx
      omega
  have hkn : k = regs.length := by omega
  rw [hkn, List.take_length] at hj
  have hb' : ∀ x ∈ regs, -9223372036854775808 ≤ x ∧ x < 9223372036854775807 := fun x hx => ⟨hb x hx, by have := hj x hx; omega⟩
  have hm := fun {o h d r κ s Q} => pureK_eq (o := o) (h := h) (d := d) (r := r) (κ := κ) (s := s) (Q := Q) (most_p regs (by omega) hb') (.inl rfl)
  have hmR := fun {o h d r κ s Q} => pureK_eq (o := o) (h := h) (d := d) (r := r) (κ := κ) (s := s) (Q := Q) (mostR_p regs (by omega) hb') (.inl rfl)
  have hcR := fun {h d r κ s Q} => pureK_eq (o := false) (h := h) (d := d) (r := r) (κ := κ) (s := s) (Q := Q) (refCheck_p f hf regs (by omega)) (.inr rfl)
  simp only [c_LFun] at hcR
  simp [c7_0, e5, f1, f2, hkl, check_r f hf regs, hcR, hm, hmR]
theorem i64_low {w : Int} (h : IntKind.i64.min ≤ w ∧ w ≤ IntKind.i64.max) : -9223372036854775808 ≤ w := by
  have h2 : IntKind.i64.min = -9223372036854775808 := rfl
  rw [h2] at h
  exact h.1
theorem law_assignChecks (x : shFun.den) (o : shFun.ok x ∧ shFun.small 1048576 x) (y : shInts.den) (o' : shInts.ok y ∧ shInts.small 1048576 y) : ∃ g, CE T 7 [.agg (shFun.pv x), (shInts.pv y).headD .emp] AH.zero (.bool true) g := by
  have hm := mkFun_sm x o.2
  rw [mkFun_c, ints_pv]
  refine ⟨AH.zero, (AssignChecks_p (mkFun x) hm.2.2.2.2.1.1 (mkInts y) ?_).ce (by simp) (.inl rfl)⟩
  intro v hv
  obtain ⟨w, hw, rfl⟩ := List.mem_map.1 hv
  exact i64_low (o'.1.2 w hw)
end Go.Proofs.Ytbnfcdjlbabddaa

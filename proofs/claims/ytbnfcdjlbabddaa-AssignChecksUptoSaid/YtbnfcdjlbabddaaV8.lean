/- The reference's 'Registers'. The law AssignRegisters, evaluated. -/
import Derived.Test.YtbnfcdjlbabddaaV7
set_option linter.unusedVariables false
set_option linter.unusedSimpArgs false
namespace Go.Proofs.Ytbnfcdjlbabddaa
open Go.Ev

theorem refRegisters_p (f : LFun) (hf : FitF f) : Pure T 26 [.agg (Enc.c f)] (regV f) true := by
  obtain ⟨b, hS, hb⟩ := refShaped_p f hf
  have hr := fun {o h d r κ s Q} => pureK_eq (o := o) (h := h) (d := d) (r := r) (κ := κ) (s := s) (Q := Q) hS (.inl rfl)
  simp only [c_LFun] at hr
  have c80 := hf.code
  have v120 := hf.vars
  refine ⟨c26, rfl, rfl, ?_⟩
  cases ht : treeS f with
  | none =>
    rw [ht] at hb
    cases b
    · simp [c26, hr, regV, ht]
    · have he : f.extern = true := by simpa using hb
      simp only [he] at hr
      simp [c26, hr, he, regV, ht]
  | some t =>
    rw [ht] at hb
    have hbe : b = true ∧ f.extern = false := by simpa using hb
    obtain ⟨rfl, he⟩ := hbe
    simp only [he] at hr
    obtain ⟨hok, hroot, hnp, hsz, hpo⟩ := treeS_ok ht
    have hvn := treeS_vn ht
    obtain ⟨P, hPp⟩ : ∃ P : Nat, f.params = (P : Nat) := ⟨f.params.toNat, by have := hpo.1; omega⟩
    simp [c26, hr, he]
    refine WK_loop tgrow (fun k s' h' => s' 5 = .int .i64 (k : Nat) ∧ h'.lo = 0 ∧ Acc h' (s' 4) 1 (ils k (o0 f)) k) f.vars.length w26_0 (by decide) ⟨by simp, by simp, by simp [ils_zero]; exact Acc.emp⟩ ?_
    rintro k s1 h1 hk ⟨e5, lo1, ja⟩ hs1 hg1
    have f1 : s1 1 = .pi (Enc.c f) := (hs1 1 (by decide)).trans (by simp [he])
    clear hs1 hg1
    have hk2 : k < 9223372036854775807 := by omega
    by_cases hkl : k < f.vars.length
    · have hsn := ils_snoc k (o0 f)
      by_cases hkp : (k : Int) < f.params
      · have e0 : o0 f (k : Nat) = (k : Nat) := by unfold o0; rw [if_pos hkp]
        rw [e0] at hsn
        simp [c26_0, e5, f1, hkl, hkp, -WR_app]
        refine WR_app_acc (m := 1) (ys := [.int .i64 (k : Nat)]) (by simpa using ja) (by simp; exact src_psl rfl) (by rfl) (by omega) (room (by omega)) (fun w h2 ha2 mv2 => ?_)
        have g2 := mv2.grow
        simp [e5, hk2]
        exact ⟨by rw [g2.1]; exact lo1, by rw [← hsn]; exact ha2⟩
      · have e0 : o0 f (k : Nat) = -1 := by unfold o0; rw [if_neg hkp]
        rw [e0] at hsn
        simp [c26_0, e5, f1, hkl, hkp, -WR_app]
        refine WR_app_acc (m := 1) (ys := [.int .i64 (-1)]) (by simpa using ja) (by simp; exact src_psl rfl) (by rfl) (by omega) (room (by omega)) (fun w h2 ha2 mv2 => ?_)
        have g2 := mv2.grow
        simp [e5, hk2]
        exact ⟨by rw [g2.1]; exact lo1, by rw [← hsn]; exact ha2⟩
    have hkn : k = f.vars.length := by omega
    subst hkn
    by_cases h16 : 16 < f.params
    · have hreg : regsT f t = none := by unfold regsT; rw [if_neg (by omega)]
      simp [c26_0, e5, f1, h16, regV, ht, hreg]
    have hreg : regsT f t = vis f t (o0 f) := by unfold regsT; rw [if_pos (by omega)]
    have ho16 : ∀ v, o0 f v < 16 := fun v => by unfold o0; split <;> omega
    have hneg : ∀ v ∈ bnd f t, o0 f v = -1 := fun v hv => by
      have := (hvn.2 v hv).2.1
      unfold o0; rw [if_neg (by omega)]
    simp [c26_0, e5, f1, h16]
    refine Eq.mp (congrArg (fun b => callK T 48 [.agg (Enc.c f), .int .i64 b, s1 4] _ _ _ _ _ _) hroot) ?_
    refine visit48_c hf ht hok hvn.1 (fun a ha => ha) ho16 hneg ⟨lo1, ja⟩ (by omega) (fun o' hv hv16 h2 m2 g2 => ?_) (fun hv h2 => ?_)
    · have hz := m2.acc
      rw [ils_map] at hz
      have hz' : Acc h2 (s1 4) 1 ((regL f o').map Enc.c).flatten f.vars.length := hz
      simp [regV, ht, hreg, hv, hz'.snap (regL_len f o').symm, hz'.freshInts]
    · simp [regV, ht, hreg, hv]

theorem AssignRegisters_p (f : LFun) (hsm : f.code.length ≤ 1048576) : Pure T 6 [.agg (Enc.c f)] (.bool true) true := by
  refine ⟨c6, rfl, rfl, ?_⟩
  simp [c6, awake46_r, few46_r f hsm]
  cases hfw : few46 f
  · simp
  have hf := few46_fit hfw
  have c80 := hf.code
  have v60 := few46_vars hfw
  have hr := fun {o h d r κ s Q} => pureK_eq (o := o) (h := h) (d := d) (r := r) (κ := κ) (s := s) (Q := Q) (registers_p f hf) (.inl rfl)
  have hr2 := fun {o h d r κ s Q} => pureK_eq (o := o) (h := h) (d := d) (r := r) (κ := κ) (s := s) (Q := Q) (refRegisters_p f hf) (.inl rfl)
  simp only [c_LFun] at hr hr2
  obtain ⟨L, e, hL, hll⟩ : ∃ (L : List Int) (e : Int), regV f = .tup [sl L, .int .i64 e] ∧ L.length ≤ 120 := by
    unfold regV
    split
    · exact ⟨_, _, rfl, by simp⟩
    · split
      · exact ⟨_, _, rfl, by simp⟩
      · exact ⟨_, _, rfl, by rw [regL_len]; omega⟩
  rw [hL] at hr hr2
  simp [hr, hr2]
  refine WK_loop tgrow (fun k s' h' => s' 7 = .int .i64 (k : Nat)) L.length w6_0 (by decide) (by simp) ?_
  rintro k s1 h1 hk e7 hs1 hg1
  have f3 : s1 3 = sl L := (hs1 3 (by decide)).trans (by simp)
  have f5 : s1 5 = sl L := (hs1 5 (by decide)).trans (by simp)
  have hk2 : k < 9223372036854775807 := by omega
  by_cases hkl : k < L.length
  · simp [c6_0, e7, f3, f5, hkl, evIdx_nat, rd1_ptr, hk2]
  · simp [c6_0, e7, f3, hkl]
theorem law_assignRegisters (x : shFun.den) (o : shFun.ok x ∧ shFun.small 1048576 x) : ∃ g, CE T 6 [.agg (shFun.pv x)] AH.zero (.bool true) g := by
  have hm := mkFun_sm x o.2
  rw [mkFun_c]
  exact ⟨AH.zero, (AssignRegisters_p (mkFun x) hm.2.2.2.2.1.1).ce (by simp) (.inl rfl)⟩
end Go.Proofs.Ytbnfcdjlbabddaa

/- Chapter 46: the program's 'Registers'. -/
import Derived.Test.YtbnfcdjlbabddaaR2
set_option linter.unusedVariables false
set_option linter.unusedSimpArgs false
namespace Go.Proofs.Ytbnfcdjlbabddaa
open Go.Ev

def o0 (f : LFun) : Int → Int := fun v => if v < f.params then v else -1
def regsT (f : LFun) (t : Tr) : Option (Int → Int) := if f.params ≤ 16 then vis f t (o0 f) else none

theorem registers_w (f : LFun) (hf : FitF f) (Q : Fr → AH → Prop)
    (err : treeS f = none → ∀ s h, s 2 = .emp → s 3 = .int .i64 3 → Q s h)
    (wide : ∀ t, treeS f = some t → regsT f t = none → ∀ s h, s 2 = .emp → s 3 = .int .i64 19 → Q s h)
    (ok : ∀ t o, treeS f = some t → regsT f t = some o → ∀ s h, RM f o h → s 2 = .rf 1 0 0 f.vars.length → s 3 = .int .i64 0 → Q s h) :
    WK T c25.body [] (initFr [.agg (Enc.c f)]) AH.zero Q := by
  cases ht : treeS f with
  | none =>
    simp [c25, shaped46_r f hf, ht]
    exact err ht _ _ (by simp) (by simp)
  | some t =>
    obtain ⟨hok, hroot, hnp, hsz, hpo⟩ := treeS_ok ht
    have c80 := hf.code
    have v120 := hf.vars
    obtain ⟨P, hPp⟩ : ∃ P : Nat, f.params = (P : Nat) := ⟨f.params.toNat, by have := hpo.1; omega⟩
    have hPv : P ≤ f.vars.length := by have := hpo.2; omega
    have r2 : roomOk f.vars.length (8 + 1) = true := room (by omega)
    simp [c25, shaped46_r f hf, ht, evMks_nat, r2]
    rw [rep_ils]
    refine WK_range tgrow (fun k s' h' => h'.lo = 0 ∧ h'.nx = 2 ∧ h'.row 0 = some (ils f.vars.length fun i => if i < (k : Nat) then -1 else 0) ∧ h'.row 1 = some [.rf 1 0 0 f.vars.length]) f.vars.length w25_0 rfl (by decide) (by simp) (by simp) (by omega) (by decide) (fun _ _ _ _ j _ => j) ?_ ?_ ?_
    · simp
      exact ils_congr fun i h0 _ => by simp; omega
    · rintro k s' h' hk ⟨j1, j2, j3, j4⟩ hi hs hg
      have f4 : s' 4 = .pt 1 0 := (hs 4 (by decide)).trans (by simp)
      simp [hi, f4, j4, evIdx_rf hk, j3, j1, hk, j2, ils_set]
      exact ils_congr fun i h0 _ => by
        by_cases q : i = (k : Int)
        · simp [q]; omega
        · simp only [q, if_false]; congr 1; simp only [eq_iff_iff]; omega
    rintro s1 h1 ⟨j1, j2, j3, j4⟩ hs1 hg1
    have f4 : s1 4 = .pt 1 0 := (hs1 4 (by decide)).trans (by simp)
    have f1 : s1 1 = .pi (Enc.c f) := (hs1 1 (by decide)).trans (by simp)
    clear hs1 hg1
    simp [f1, hPp]
    refine WK_range tgrow (fun k s' h' => h'.lo = 0 ∧ h'.nx = 2 ∧ k ≤ 16 ∧ h'.row 0 = some (ils f.vars.length fun i => if i < (k : Nat) then i else -1) ∧ h'.row 1 = some [.rf 1 0 0 f.vars.length]) P w25_1 rfl (by decide) (by simp) (by simp) (by omega) (by decide) (fun _ _ _ _ j _ => j) ?_ ?_ ?_
    · refine ⟨j1, j2, by omega, ?_, j4⟩
      rw [j3]
      exact congrArg _ (ils_congr fun i h0 h1 => by
        have e1 : ¬ i < ((0 : Nat) : Int) := by omega
        rw [if_pos h1, if_neg e1])
    · rintro k s' h' hk ⟨j1, j2, j16, j3, j4⟩ hi hs hg
      have f4 : s' 4 = .pt 1 0 := (hs 4 (by decide)).trans (by simp [f4])
      have hkv : k < f.vars.length := by omega
      by_cases h16 : (16 : Int) ≤ (k : Int)
      · have hr : regsT f t = none := by
          unfold regsT; rw [if_neg (by omega)]
        simp [hi, h16]
        exact wide t ht hr _ _ (by simp) (by simp)
      · simp [hi, h16, f4, j4, evIdx_rf hkv, j3, j1, hkv, j2, ils_set]
        refine ⟨by omega, ils_congr fun i h0 _ => ?_⟩
        by_cases q : i = (k : Int)
        · simp [q]; omega
        · simp only [q, if_false]; congr 1; simp only [eq_iff_iff]; omega
    rintro s2 h2 ⟨j1, j2, j16, j3, j4⟩ hs2 hg2
    have g4 : s2 4 = .pt 1 0 := (hs2 4 (by decide)).trans (by simp [f4])
    have g1 : s2 1 = .pi (Enc.c f) := (hs2 1 (by decide)).trans (by simp [f1])
    clear hs2 hg2
    have hreg : regsT f t = vis f t (o0 f) := by
      unfold regsT; rw [if_pos (by omega)]
    have ho0 : (fun i : Int => if i < (P : Int) then i else -1) = o0 f := by
      funext i; unfold o0; rw [hPp]
    rw [ho0] at j3
    have hvb2 : 46 < vb := by decide
    simp [g1, g4, j1, j2, hvb2]
    refine Eq.mp (congrArg (fun b => callK T 46 [.int .i64 b, .pi (Enc.c f), .pt 2 0, .pt 3 0] _ _ _ _ _ _) hroot) ?_
    refine visit46_c hf ht hok (o := o0 f) (fun p hp => hp) ?_ (fun o' hv h3 m3 g3 k3 => ?_) (fun hv h3 => ?_)
    · refine ⟨by simp [j1], by simp [j2], fun v => ?_, by simp [j2, j3], by simp [j2, j4], by simp [j2], by simp [j2]⟩
      unfold o0
      split
      · omega
      · decide
    · simp [g4, m3.r1]
      exact ok t o' ht (by rw [hreg, hv]) _ _ m3 (by simp) (by simp)
    · simp
      exact wide t ht (by rw [hreg, hv]) _ _ (by simp) (by simp)

/-- What 'Registers' gives. -/
def regL (f : LFun) (o : Int → Int) : List Int := (nums f.vars.length).map o
theorem regL_len (f : LFun) (o : Int → Int) : (regL f o).length = f.vars.length := by simp [regL, nums_len]
theorem regL_rg (f : LFun) (o : Int → Int) {v : Int} (h0 : 0 ≤ v) (h1 : v < (f.vars.length : Int)) : rg (regL f o) v = o v := by
  have h : v.toNat < f.vars.length := by omega
  simp [rg, regL, nums, h, Int.max_eq_left h0]
noncomputable def regV (f : LFun) : PV := match treeS f with
  | none => .tup [sl ([] : List Int), .int .i64 3]
  | some t => match regsT f t with
    | none => .tup [sl ([] : List Int), .int .i64 19]
    | some o => .tup [sl (regL f o), .int .i64 0]
theorem RM.acc {f : LFun} {o : Int → Int} {h : AH} (m : RM f o h) : Acc h (.rf 1 0 0 f.vars.length) 1 ((regL f o).map Enc.c).flatten f.vars.length :=
  ⟨by rw [flat_len', regL_len]; rfl, .inr ⟨0, rfl, by rw [m.r0, ils_map]; rfl, by have := m.nx; omega, by have := m.lo; omega⟩⟩
theorem registers_p (f : LFun) (hf : FitF f) : Pure T 25 [.agg (Enc.c f)] (regV f) true := by
  refine ⟨c25, rfl, rfl, ?_⟩
  refine registers_w f hf _ (fun ht s h e2 e3 => ?_) (fun t ht hr s h e2 e3 => ?_) (fun t o ht hr s h m e2 e3 => ?_)
  · simp [c25, e2, e3, regV, ht]
  · simp [c25, e2, e3, regV, ht, hr]
  · simp [c25, e2, e3, regV, ht, hr, m.acc.snap (regL_len f o).symm, m.acc.freshInts]
end Go.Proofs.Ytbnfcdjlbabddaa

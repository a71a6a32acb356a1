/- Which functions the statements of chapter 46 look at; the greatest number. -/
import Derived.Test.YtbnfcdjlbabddaaE1
import Derived.Test.YtbnfcdjlbabddaaS4
set_option linter.unusedVariables false
set_option linter.unusedSimpArgs false
namespace Go.Proofs.Ytbnfcdjlbabddaa
open Go.Ev

def few46N (n : LNode) : Bool := decide (n.args.length ≤ 20) && decide (n.more.length ≤ 20) && decide (n.branches.length ≤ 20) && n.branches.all fun b => decide (b.binds.length ≤ 20)
def few46 (f : LFun) : Bool := f.code.all few46N && decide (f.code.length ≤ 80) && decide (f.vars.length ≤ 60)
theorem few46_fit {f : LFun} (h : few46 f = true) : FitF f := by
  simp only [few46, Bool.and_eq_true, decide_eq_true_eq] at h
  obtain ⟨⟨h1, h2⟩, h3⟩ := h
  refine ⟨by omega, h2, fun n hn => ?_⟩
  have := List.all_eq_true.1 h1 n hn
  simp only [few46N, Bool.and_eq_true, decide_eq_true_eq, List.all_eq_true] at this
  obtain ⟨⟨⟨a1, a2⟩, a3⟩, a4⟩ := this
  exact ⟨a1, a2, a3, a4⟩
theorem few46_vars {f : LFun} (h : few46 f = true) : f.vars.length ≤ 60 := by
  simp only [few46, Bool.and_eq_true, decide_eq_true_eq] at h
  exact h.2

theorem few46_p (f : LFun) (hsm : f.code.length ≤ 1048576) : Pure T 24 [.agg (Enc.c f)] (.bool (few46 f)) true := by
  refine ⟨c24, rfl, rfl, ?_⟩
  simp [c24]
  refine WK_loop tgrow (fun k s' h' => s' 3 = .int .i64 (k : Nat) ∧ ∀ x ∈ f.code.take k, few46N x = true) f.code.length w24_0 (by decide) (by simp) ?_
  rintro k s' h' hk ⟨e3, hj⟩ hs hg
  have f1 : s' 1 = .pi (Enc.c f) := (hs 1 (by decide)).trans (by simp)
  have hk2 : k < 9223372036854775807 := by omega
  simp [c24_0, e3, f1]
  by_cases hkl : k < f.code.length
  case neg =>
    have hkn : k = f.code.length := by omega
    rw [hkn, List.take_length] at hj
    have h1 : f.code.all few46N = true := List.all_eq_true.2 hj
    simp [hkl, f1]
    refine gdS_split (fun hc => ?_) (fun hc => ?_) <;> simp at hc
    · have hc' : f.code.length ≤ 80 := by omega
      simp [f1, few46, h1, hc']
      omega
    · simp [few46, h1]
      omega
  have bad : few46N f.code[k] = false → few46 f = false := fun q => by
    have : f.code.all few46N = false := List.all_eq_false.2 ⟨_, List.getElem_mem hkl, by rw [q]; simp⟩
    simp [few46, this]
  obtain ⟨x, hx⟩ : ∃ x, x = f.code[k] := ⟨_, rfl⟩
  simp [hkl, f1, e3, evIdx_nat, rd1_ptr, rds_ptr]
  by_cases h1 : (20 : Int) < (f.code[k].args.length : Int)
  · have := bad (by simp [few46N]; omega)
    simp [h1, this]
  by_cases h2 : (20 : Int) < (f.code[k].more.length : Int)
  · have := bad (by simp [few46N]; omega)
    simp [h1, h2, f1, e3, evIdx_nat, rd1_ptr, rds_ptr, hkl, this]
  by_cases h3 : (20 : Int) < (f.code[k].branches.length : Int)
  · have := bad (by simp [few46N]; omega)
    simp [h1, h2, h3, f1, e3, evIdx_nat, rd1_ptr, rds_ptr, hkl, this]
  simp [h1, h2, h3, f1, e3, evIdx_nat, rd1_ptr, rds_ptr, hkl]
  refine WK_loop tgrow (fun q s2 h2 => s2 4 = .int .i64 (q : Nat) ∧ ∀ b ∈ f.code[k].branches.take q, b.binds.length ≤ 20) f.code[k].branches.length w24_1 (by decide) (by simp) ?_
  rintro q s2 hh2 hq ⟨e4, hb⟩ hs2 hg2
  have g1 : s2 1 = .pi (Enc.c f) := (hs2 1 (by decide)).trans (by simp [f1])
  have g3 : s2 3 = .int .i64 (k : Nat) := (hs2 3 (by decide)).trans (by simp [e3])
  have hq2 : q < 9223372036854775807 := by omega
  simp [c24_1, e4, g1, g3, evIdx_nat, rd1_ptr, rds_ptr, hkl]
  by_cases hql : q < f.code[k].branches.length
  case neg =>
    have hqn : q = f.code[k].branches.length := by omega
    rw [hqn, List.take_length] at hb
    simp [hql, g3, hk2, hkl]
    refine mem_take_succ (P := fun x : LNode => few46N x = true) hkl hj ?_
    simp only [few46N, Bool.and_eq_true, decide_eq_true_eq, List.all_eq_true]
    exact ⟨⟨⟨by omega, by omega⟩, by omega⟩, hb⟩
  simp [hql, g1, g3, e4, evIdx_nat, rd1_ptr, rds_ptr, hkl]
  by_cases h4 : (20 : Int) < (f.code[k].branches[q].binds.length : Int)
  · have := bad (by
      have : f.code[k].branches.all (fun b => decide (b.binds.length ≤ 20)) = false := List.all_eq_false.2 ⟨_, List.getElem_mem hql, by simp; omega⟩
      simp [few46N, this])
    simp [h4, this]
  · simp [h4, e4, hq2, hql]
    exact mem_take_succ (P := fun b : LBranch => b.binds.length ≤ 20) hql hb (by omega)

section
variable {o : Bool} {h : AH} {d : Option Nat} {r : List COper} {κ : List KF} {s : Fr} {Q : Fr → AH → Prop}
theorem few46_r (f : LFun) (hsm : f.code.length ≤ 1048576) : pureK T 24 (some [.agg [PV.str f.name, PV.int .i64 f.params, PV.int .i64 f.result, sl f.vars, sl f.code, PV.int .i64 f.body, PV.bool f.extern]]) o h d r κ s Q = WR T r κ (Fr.put s d (.bool (few46 f))) h Q := pureK_eq (few46_p f hsm) (.inl rfl)
theorem awake46_p : Pure T 23 [] (.bool true) false := Pure_of_CE awake46_ce rfl rfl rfl
theorem awake46_r : pureK T 23 (some []) false h d r κ s Q = WR T r κ (Fr.put s d (.bool true)) h Q := pureK_eq awake46_p (.inr rfl)
end

/-- The greatest number, plus 1. -/
def mostS (l : List Int) : Int := l.foldl (fun m r => max m (r + 1)) 0
theorem mostS_snoc (l : List Int) (a : Int) : mostS (l ++ [a]) = max (mostS l) (a + 1) := by simp [mostS]
theorem mostS_pos (l : List Int) : 0 ≤ mostS l := by
  refine snoc_ind (P := fun l => 0 ≤ mostS l) (by simp [mostS]) (fun l a ih => ?_) l
  rw [mostS_snoc]; omega
theorem mostS_le {l : List Int} {N : Int} (h0 : 0 ≤ N) : mostS l ≤ N ↔ ∀ x ∈ l, x + 1 ≤ N := by
  refine snoc_ind (P := fun l => mostS l ≤ N ↔ ∀ x ∈ l, x + 1 ≤ N) (by simp [mostS, h0]) (fun l a ih => ?_) l
  rw [mostS_snoc, Int.max_le, ih]
  constructor
  · rintro ⟨h1, h2⟩ x hx
    rcases List.mem_append.1 hx with q | q
    · exact h1 x q
    · rw [List.mem_singleton.1 q]; exact h2
  · exact fun h => ⟨fun x hx => h x (List.mem_append_left _ hx), h a (by simp)⟩
theorem evMM_maxI (a b : Int) : evMM true [.int .i64 a, .int .i64 b] = some (.int .i64 (max a b)) := by
  simp only [evMM, List.foldl_cons, List.foldl_nil, if_true]
  congr 2
  split <;> omega
theorem most_p (l : List Int) (hl : l.length ≤ 1048576) (hb : ∀ x ∈ l, -9223372036854775808 ≤ x ∧ x < 9223372036854775807) : Pure T 29 [sl l] (.int .i64 (mostS l)) true := by
  refine ⟨c29, rfl, rfl, ?_⟩
  simp [c29]
  refine WK_range tgrow (fun k s' h' => s' 3 = .int .i64 (mostS (l.take k))) l.length w29_0 rfl (by decide) (by simp) (by simp) (by omega) (by decide) (fun k s1 h1 s2 j hne => by rw [hne 3 (by decide) (by decide) (by decide)]; exact j) (by simp [mostS]) ?_ ?_
  · rintro k s' h' hk j3 hi hs hg
    have f6 : s' 6 = sl l := (hs 6 (by decide)).trans (by simp)
    have hb := hb _ (List.getElem_mem hk)
    have hw : IntKind.i64.wrap (l[k] + 1) = l[k] + 1 := w64 (by omega)
    simp [hi, f6, j3, evIdx_nat, rd1_ptr, hk, hw, evMM_maxI]
    rw [take_succ' hk, mostS_snoc]
  · intro s' h' j3 hs hg
    rw [List.take_length] at j3
    simp [j3]
theorem mostR_p (l : List Int) (hl : l.length ≤ 1048576) (hb : ∀ x ∈ l, -9223372036854775808 ≤ x ∧ x < 9223372036854775807) : Pure T 30 [sl l] (.int .i64 (mostS l)) true := by
  refine ⟨c30, rfl, rfl, ?_⟩
  simp [c30]
  refine WK_loop tgrow (fun k s' h' => s' 4 = .int .i64 (k : Nat) ∧ s' 3 = .int .i64 (mostS (l.take k))) l.length w30_0 (by decide) (by simp [mostS]) ?_
  rintro k s' h' hk ⟨e4, j3⟩ hs hg
  have f0 : s' 0 = sl l := (hs 0 (by decide)).trans (by simp)
  have hk2 : k < 9223372036854775807 := by omega
  simp [c30_0, e4, f0]
  by_cases hkl : k < l.length
  · have hb := hb _ (List.getElem_mem hkl)
    have hw : IntKind.i64.wrap (l[k] + 1) = l[k] + 1 := w64 (by omega)
    simp [hkl, e4, f0, j3, evIdx_nat, rd1_ptr, hw, evMM_maxI, hk2]
    rw [take_succ' hkl, mostS_snoc]
  · have hkn : k = l.length := by omega
    rw [hkn, List.take_length] at j3
    simp [hkl, j3]
end Go.Proofs.Ytbnfcdjlbabddaa

/- Small tables, small images; the law CodeSame. -/
import Derived.Test.YtkaabknkabdfpaaGreatDoorS8
set_option linter.unusedVariables false
set_option linter.unusedSimpArgs false
namespace Go.Proofs.YtkaabknkabdfpaaGreatDoor
open Go.Ev

section
variable {o : Bool} {h : AH} {d : Option Nat} {r : List COper} {κ : List KF} {s : Fr} {Q : Fr → AH → Prop}

def smallC (c : LCon) : Bool := decide (c.name.size ≤ 40) && decide (c.fields.length ≤ 8)
def smallD (x : LData) : Bool := decide (x.name.size ≤ 40) && decide (x.cons.length ≤ 8) && x.cons.all smallC
def small (l : List LData) : Bool := decide (l.length ≤ 10) && l.all smallD

theorem small_cons (a : List LData) (k : Nat) (hk : k < a.length) (h1 : a[k].cons.length ≤ 9223372036854775807)
    (f0 : s 0 = sl a) (f3 : s 3 = .int .i64 (k : Nat)) (f4 : s 4 = .int .i64 0)
    (no : a[k].cons.all smallC = false → ∀ s' h', s' 2 = .bool false → Q s' h') (yes : a[k].cons.all smallC = true → ∀ s' h', (∀ t, t ∉ w19_1 → s' t = s t) → Grow h h' → WK T .skip κ s' h' Q) : WK T (.loop c19_1) (.block 2 :: κ) s h Q := by
  refine WK_loop tgrow (fun j s h => s 4 = .int .i64 (j : Nat) ∧ ∀ c ∈ a[k].cons.take j, smallC c = true) a[k].cons.length w19_1 (by decide) (by simp [f4]) ?_
  rintro j s' h' hj ⟨e4, hjj⟩ hs hg
  have g0 : s' 0 = sl a := (hs 0 (by decide)).trans f0
  have g3 : s' 3 = .int .i64 (k : Nat) := (hs 3 (by decide)).trans f3
  simp [c19_1, e4, g0, g3, evIdx_nat, rd1_ptr, hk]
  refine condS_split (fun hjl => ?_) (fun hjl => ?_) <;> simp at hjl
  case refine_2 =>
    have : a[k].cons.all smallC = true := List.all_eq_true.2 (by rw [show j = a[k].cons.length by omega, List.take_length] at hjj; exact hjj)
    simp
    refine yes this _ _ (fun t ht => ?_) hg
    have := hs t ht
    simp [w19_1] at ht
    simp [Fr.put, Fr.know, *]
  have hj2 : j < 9223372036854775807 := by omega
  have bad : smallC a[k].cons[j] = false → a[k].cons.all smallC = false := fun q => all_bad (p := smallC) hjl (by simp [q])
  simp [e4, g0, g3, evIdx_nat, rd1_ptr, hk, hjl]
  refine gdS_split (fun hn => ?_) (fun hn => ?_) <;> simp at hn
  case refine_2 =>
    simp
    exact no (bad (by simp [smallC]; omega)) _ _ (by simp)
  simp [e4, g0, g3, evIdx_nat, rd1_ptr, hk, hjl]
  refine condS_split (fun hm => ?_) (fun hm => ?_) <;> simp at hm
  · simp
    exact no (bad (by simp [smallC]; omega)) _ _ (by simp)
  · have := mem_take_succ (P := fun x => smallC x = true) hjl hjj (by simp [smallC]; omega)
    simp [e4, hj2, hjl]
    exact this

theorem small_p (l : List LData) (hl : ∀ x ∈ l, x.cons.length ≤ 9223372036854775807) : Pure T 19 [sl l] (.bool (small l)) true := by
  refine ⟨c19, rfl, rfl, ?_⟩
  simp [c19]
  refine WK_loop tgrow (fun k s h => s 3 = .int .i64 (k : Nat) ∧ ∀ x ∈ l.take k, smallD x = true) 10 w19_0 (by decide) (by simp) ?_
  rintro k s' h' hk ⟨e3, hj⟩ hs hg
  have f0 : s' 0 = sl l := (hs 0 (by decide)).trans (by simp)
  simp [c19_0, e3, f0]
  have fin : ¬ (k < l.length ∧ k < 10) → decide (l.length ≤ 10) = small l := fun q => by
    unfold small
    by_cases h20 : l.length ≤ 10
    · have : l.take k = l := List.take_of_length_le (by omega)
      rw [this] at hj
      have : l.all smallD = true := List.all_eq_true.2 hj
      simp [this]
    · simp [h20]
  refine gdS_split (fun hkl => ?_) (fun hkl => ?_) <;> simp at hkl
  case refine_2 =>
    simp [f0, ← fin (by omega)]
    omega
  simp [e3, f0]
  refine condS_split (fun h20 => ?_) (fun h20 => ?_) <;> simp at h20
  case refine_2 =>
    simp [f0, ← fin (by omega)]
    omega
  have hk2 : k < 9223372036854775807 := by omega
  have bad : smallD l[k] = false → small l = false := fun q => by
    unfold small
    rw [all_bad (p := smallD) hkl (by simp [q])]
    simp
  simp [e3, f0, evIdx_nat, rd1_ptr, hkl]
  refine gdS_split (fun hn => ?_) (fun hn => ?_) <;> simp at hn
  case refine_2 => simp [bad (by simp [smallD]; omega)]
  simp [e3, f0, evIdx_nat, rd1_ptr, hkl]
  refine condS_split (fun hm => ?_) (fun hm => ?_) <;> simp at hm
  · simp [bad (by simp [smallD]; omega)]
  simp
  refine small_cons l k hkl (hl _ (List.getElem_mem hkl)) (by simp [f0]) (by simp [e3]) (by simp) (fun q s2 h2 e2 => ?_) (fun q s2 h2 hs2 hg2 => ?_)
  · simp [e2, bad (by simp [smallD, q])]
  · have z3 : s2 3 = .int .i64 (k : Nat) := (hs2 3 (by decide)).trans (by simp [e3])
    have := mem_take_succ (P := fun x => smallD x = true) hkl hj (by simp [smallD, q]; omega)
    simp [z3, hk2]
    exact ⟨by omega, this⟩
theorem small_r (l : List LData) (hl : ∀ x ∈ l, x.cons.length ≤ 9223372036854775807) : pureK T 19 (some [sl l]) o h d r κ s Q = WR T r κ (Fr.put s d (.bool (small l))) h Q := pureK_eq (small_p l hl) (.inl rfl)

def fewM (i : LImage) : Bool := small i.datas && decide (i.procs.length ≤ 6) && i.procs.all fewP

theorem few_p (i : LImage) (hl : ∀ x ∈ i.datas, x.cons.length ≤ 9223372036854775807) : Pure T 8 [.agg (Enc.c i)] (.bool (fewM i)) true := by
  refine ⟨c8, rfl, rfl, ?_⟩
  simp [c8, small_r i.datas hl]
  (repeat' ((first | refine gdS_split (fun hc => ?_) (fun hc => ?_) | refine condS_split (fun hc => ?_) (fun hc => ?_)) <;> (try simp at hc) <;> (try simp [hc])))
  all_goals first
    | (have : fewM i = false := by
         unfold fewM
         simp only [Bool.and_eq_false_iff, decide_eq_false_iff_not]
         omega
       simp [this]; done)
    | (have : fewM i = false := by
         unfold fewM
         simp [*]
       simp [this]; done)
    | skip
  refine WK_loop tgrow (fun k s h => s 3 = .int .i64 (k : Nat) ∧ ∀ x ∈ i.procs.take k, fewP x = true) i.procs.length w8_0 (by decide) (by simp) ?_
  rintro k s' h' hk ⟨e3, hj⟩ hs hg
  have f1 : s' 1 = .pi (Enc.c i) := (hs 1 (by decide)).trans (by simp)
  simp [c8_0, e3, f1]
  refine condS_split (fun hkl => ?_) (fun hkl => ?_) <;> simp at hkl
  · have hk2 : k < 9223372036854775807 := by omega
    simp [e3, f1, evIdx_nat, rds_ptr, hkl, fewP_r i.procs[k]]
    refine condS_split (fun hq => ?_) (fun hq => ?_) <;> simp at hq
    · have : fewM i = false := by
        unfold fewM
        have := all_bad (p := fewP) hkl (by simp [hq])
        simp [this]
      simp [this]
    · have := mem_take_succ (P := fun x => fewP x = true) hkl hj hq
      simp [e3, hk2, hkl]
      exact this
  have hj : i.procs.all fewP = true := List.all_eq_true.2 (by rw [show k = i.procs.length by omega, List.take_length] at hj; exact hj)
  have : fewM i = true := by
    unfold fewM
    rw [hj]
    simp only [Bool.and_eq_true, decide_eq_true_eq, and_true]
    simp [*]
    try omega
  simp [this]
theorem few_r (i : LImage) (hl : ∀ x ∈ i.datas, x.cons.length ≤ 9223372036854775807) : pureK T 8 (some [.agg [sl i.datas, sl i.procs]]) o h d r κ s Q = WR T r κ (Fr.put s d (.bool (fewM i))) h Q := pureK_eq (few_p i hl) (.inl rfl)
end
end Go.Proofs.YtkaabknkabdfpaaGreatDoor

/- The program's 'joint': the first block that may be joined. -/
import Derived.Test.YtpdgjdnipkmocaaH4
import Derived.Test.YtpdgjdnipkmocaaP2
set_option linter.unusedVariables false
set_option linter.unusedSimpArgs false
namespace Go.Proofs.Ytpdgjdnipkmocaa
open Go.Ev

/-- How often a block is a successor. -/
noncomputable def cntB (p : LProc) (b : Int) : Nat := ((order p).flatMap (succ p)).count b
/-- The block that a jumps to. -/
def jb (p : LProc) (a : Int) : Int := (succ p a).headD 0
open Classical in
noncomputable def jointAt (p : LProc) (a : Int) : Bool := decide ((succ p a).length = 1 ∧ (∃ x, (blockAt p a).code.getLast? = some x ∧ x.op = 8) ∧ jb p a ≠ a ∧ jb p a ≠ 0 ∧ cntB p (jb p a) ≤ 1)

section
variable {κ : List KF} {s : Fr} {h : AH} {Q : Fr → AH → Prop}

theorem joint_in (b : Int) (l : List Int) (hl : l.length ≤ 1000) (n : Nat) (hn : n ≤ 1) (e73 : s 73 = sl l) (e74 : s 74 = .int .i64 (l.length : Int)) (e75 : s 75 = .int .i64 0) (e9 : s 9 = .int .i64 b) (e10 : s 10 = .int .i64 (n : Nat))
    (more : ∀ s' h', (∀ t, t ∉ w47_2 → s' t = s t) → Grow h h' → 1 < n + l.count b → WK T (.exit 1) κ s' h' Q)
    (next : ∀ s' h', (∀ t, t ∉ w47_2 → s' t = s t) → Grow h h' → s' 10 = .int .i64 ((n + l.count b : Nat) : Int) → n + l.count b ≤ 1 → WK T .skip κ s' h' Q) : WK T (.loop c47_2) (.block 4 :: κ) s h Q := by
  refine WK_range tgrow (fun (k : Nat) (s' : Fr) (h' : AH) => s' 10 = .int .i64 ((n + (l.take k).count b : Nat) : Int) ∧ n + (l.take k).count b ≤ 1) l.length w47_2 rfl (by decide) e75 e74 (by omega) (by decide) (fun k s1 h1 s2 j hne => by rw [hne 10 (by decide) (by decide) (by decide)]; exact j) ⟨by simpa using e10, by simpa using hn⟩ ?_ ?_
  · rintro k s' h' hk ⟨j1, j2⟩ hi hs hg
    have f73 : s' 73 = sl l := (hs 73 (by decide)).trans e73
    have f9 : s' 9 = .int .i64 b := (hs 9 (by decide)).trans e9
    have e := List.count_append (a := b) (l₁ := l.take (k + 1)) (l₂ := l.drop (k + 1))
    rw [List.take_append_drop] at e
    have e2 : (l.take (k + 1)).count b = (l.take k).count b + if l[k] = b then 1 else 0 := by
      rw [take_succ' hk, List.count_append, List.count_singleton]
      simp
    generalize hm : n + (l.take k).count b = m at *
    have hm2 : (m : Nat) < 9223372036854775807 := by omega
    generalize hx : l[k] = x at *
    simp [hi, f73, f9, j1, evIdx_nat, rd1_ptr, hk, hx]
    by_cases hb : x = b
    · rw [if_pos hb] at e2
      simp [hb, j1, hm2, hi]
      by_cases h1 : m = 0
      · subst h1
        simp [hi]
        omega
      · have h2 : (1 : Int) < (m : Int) + 1 := by omega
        simp [h2]
        refine more _ _ (fun t ht => ?_) hg (by omega)
        have := hs t ht
        simp [w47_2] at ht
        simp [ht, this]
    · rw [if_neg hb] at e2
      have h2 : ¬ (1 : Int) < (m : Int) := by omega
      simp [hb, j1, h2, hi]
      omega
  · rintro s' h' ⟨j1, j2⟩ hs hg
    rw [List.take_length] at j1 j2
    exact next s' h' hs hg j1 j2
end
end Go.Proofs.Ytpdgjdnipkmocaa

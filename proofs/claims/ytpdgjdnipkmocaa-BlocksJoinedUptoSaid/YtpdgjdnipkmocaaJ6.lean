/- The reference's 'Join'. -/
import Derived.Test.YtpdgjdnipkmocaaJ5
set_option linter.unusedVariables false
set_option linter.unusedSimpArgs false
namespace Go.Proofs.Ytpdgjdnipkmocaa
open Go.Ev

/-- Join stops after k steps. -/
def Stops (p : LProc) (k : Nat) : Prop := jointS (joinK k p) = none ∧ ∀ i, i < k → jointS (joinK i p) ≠ none

theorem joinK_fit {p : LProc} (h : JFit p) : ∀ k, JFit (joinK k p)
  | 0 => h
  | k + 1 => by
    have ih := joinK_fit h k
    simp only [joinK]
    split
    · rename_i a e
      exact ih.mrg (jn_of e)
    · exact ih
theorem joinK_succ {p : LProc} {k : Nat} {a : Int} (e : jointS (joinK k p) = some a) : joinK (k + 1) p = mrg (joinK k p) a := by
  simp only [joinK, e]
theorem joinK_len {p : LProc} (h : JFit p) : ∀ {k : Nat}, (∀ i, i < k → jointS (joinK i p) ≠ none) → (order (joinK k p)).length + k = (order p).length
  | 0, _ => rfl
  | k + 1, hk => by
    have ih := joinK_len h (k := k) fun i hi => hk i (by omega)
    cases e : jointS (joinK k p) with
    | none => exact absurd e (hk k (by omega))
    | some a =>
      rw [joinK_succ e]
      have := mrg_ord_len (jn_of e)
      omega
theorem stops_ex {p : LProc} (h : JFit p) : ∃ k, Stops p k := by
  have key : ∀ n, (∃ k, Stops p k) ∨ ∀ i, i < n → jointS (joinK i p) ≠ none := by
    intro n
    induction n with
    | zero => exact .inr fun i hi => by omega
    | succ n ih =>
      rcases ih with q | q
      · exact .inl q
      · cases e : jointS (joinK n p) with
        | none => exact .inl ⟨n, e, q⟩
        | some a =>
          refine .inr fun i hi => ?_
          by_cases hin : i = n
          · subst hin; rw [e]; simp
          · exact q i (by omega)
  rcases key ((order p).length + 1) with q | q
  · exact q
  · have := joinK_len h q
    omega
theorem Stops.le {p : LProc} {k : Nat} (h : JFit p) (s : Stops p k) : k ≤ (order p).length := by
  have := joinK_len h s.2
  omega

theorem tidy_ofJ {p : LProc} (h : JFit p) : Fit (tidyP p) := tidyP_fit h.fit

theorem JoinR_p (p : LProc) (hj : JFit p) {K : Nat} (hs : Stops p K) : Pure T 23 [.agg (Enc.c p)] (.tup [.agg (Enc.c (tidyP (joinK K p))), .int .i64 (K : Nat), .bool true]) false := by
  refine ⟨c23, rfl, rfl, ?_⟩
  have hK := hs.le hj
  have hol := (order_nums p).length
  have hp1 := hj.fit.1.1
  simp [c23, laidR_r p hj.fit.1, hj.la]
  refine WK_loop tgrow (fun k s' h' => s' 5 = .int .i64 (k : Nat) ∧ k ≤ K ∧ h'.row 0 = some (Enc.c (joinK k p)) ∧ h'.row 1 = some zero9 ∧ 1 < h'.nx ∧ h'.lo = 0) K w23_0 (by decide) ⟨by simp, by omega, by simp [joinK], by simp [zero9], by simp, by simp⟩ ?_
  rintro k s' h' hk ⟨e5, kle, r0, r1, nx, lo⟩ hs' hg
  have f1 : s' 1 = .pt 0 0 := (hs' 1 (by decide)).trans (by simp)
  have f2 : s' 2 = .pt 1 0 := (hs' 2 (by decide)).trans (by simp)
  have hjk := joinK_fit hj k
  have hlo : h'.lo ≤ h'.nx := by omega
  have n1 : ¬ 0 = h'.nx := by omega
  have n2 : ¬ 1 = h'.nx := by omega
  have n3 : ¬ h'.nx = 0 := by omega
  have hk2 : k < 9223372036854775807 := by omega
  cases e : jointS (joinK k p) with
  | some a =>
    have hkK : k < K := by
      rcases Nat.lt_or_ge k K with q | q
      · exact q
      · have : k = K := by omega
        subst this
        rw [hs.1] at e; cases e
    have hv : onceV (joinK k p) = .tup [.agg (Enc.c (joinK (k + 1) p)), .bool true] := by simp only [onceV, e, joinK_succ e]
    have ho := fun {h d r κ s Q} => once_r (h := h) (d := d) (r := r) (κ := κ) (s := s) (Q := Q) (joinK k p) hjk
    rw [hv] at ho
    generalize joinK (k + 1) p = q' at *
    generalize joinK k p = q at *
    simp [c23_0, f1, r0, ho, hlo, n1, n2, lo, e5, hk2, r1, hkK, nx]
    omega
  | none =>
    have hkK : k = K := by
      apply Classical.byContradiction
      intro q
      exact hs.2 k (by omega) e
    subst hkK
    have hv : onceV (joinK k p) = .tup [.agg (Enc.c (joinK k p)), .bool false] := by simp only [onceV, e]
    have ho := fun {h d r κ s Q} => once_r (h := h) (d := d) (r := r) (κ := κ) (s := s) (Q := Q) (joinK k p) hjk
    rw [hv] at ho
    have ht := fun {h d r κ s Q} => TidyR_r (h := h) (d := d) (r := r) (κ := κ) (s := s) (Q := Q) (joinK k p) hjk.fit.1
    rw [hjk.la, if_pos rfl] at ht
    generalize joinK k p = q at *
    simp [c23_0, f1, f2, r0, ho, ht, hlo, n1, n2, n3, lo, e5, r1, zero9]
end Go.Proofs.Ytpdgjdnipkmocaa

/- The law CodeSame, evaluated. -/
import Derived.Test.YtkaabknkabdfpaaGreatDoorS9
set_option linter.unusedVariables false
set_option linter.unusedSimpArgs false
namespace Go.Proofs.YtkaabknkabdfpaaGreatDoor
open Go.Ev

section
variable {o : Bool} {h : AH} {d : Option Nat} {r : List COper} {κ : List KF} {s : Fr} {Q : Fr → AH → Prop}

theorem awake_p : Pure T 9 [] (.bool true) false := Pure_of_CE (c := c9) ⟨3000, awake_ev⟩ rfl rfl rfl
theorem awake_r : pureK T 9 (some []) false h d r κ s Q = WR T r κ (Fr.put s d (.bool true)) h Q := pureK_eq awake_p (.inr rfl)

theorem nums_fit {l : List ByteArray} (h : nums l = true) : l.length ≤ 20 := by
  simp only [nums, Bool.and_eq_true, decide_eq_true_eq] at h
  exact h.1
theorem few_fit {i : LImage} (h : fewM i = true) : FitM i := by
  simp only [fewM, small, Bool.and_eq_true, decide_eq_true_eq, List.all_eq_true] at h
  obtain ⟨⟨⟨h1, h2⟩, h3⟩, h4⟩ := h
  refine ⟨⟨by omega, fun x hx => ?_⟩, by omega, fun p hp => ?_⟩
  · have := h2 x hx
    simp only [smallD, Bool.and_eq_true, decide_eq_true_eq, List.all_eq_true] at this
    refine ⟨by omega, fun c hc => ?_⟩
    have := this.2 c hc
    simp only [smallC, Bool.and_eq_true, decide_eq_true_eq] at this
    omega
  · have := h4 p hp
    simp only [fewP, Bool.and_eq_true, decide_eq_true_eq, List.all_eq_true] at this
    obtain ⟨⟨⟨⟨⟨⟨⟨⟨q1, q2⟩, q3⟩, q4⟩, q5⟩, q6⟩, q7⟩, q8⟩, q9⟩ := this
    have q7 := nums_fit q7
    refine ⟨by omega, by omega, fun l hl => ?_, by omega, by omega, fun b hb => ?_⟩
    · have := nums_fit (q8 l hl); omega
    · have := q9 b hb
      simp only [fewB, Bool.and_eq_true, decide_eq_true_eq, List.all_eq_true] at this
      obtain ⟨⟨⟨⟨w1, w2⟩, w3⟩, w4⟩, w5⟩ := this
      refine ⟨⟨by omega, by omega, fun x hx => ?_⟩, fun y hy => ?_⟩
      · have := w5 x hx
        simp only [fewI, Bool.and_eq_true, decide_eq_true_eq] at this
        exact ⟨by omega, by omega, by omega⟩
      · have := nums_fit (w4 y hy); omega

theorem CodeSame_p (a b : LImage) (name : ByteArray) (ha : ∀ x ∈ a.datas, x.cons.length ≤ 9223372036854775807) (hb : ∀ x ∈ b.datas, x.cons.length ≤ 9223372036854775807) : Pure T 6 [.agg (Enc.c a), .agg (Enc.c b), .str name] (.bool true) true := by
  refine ⟨c6, rfl, rfl, ?_⟩
  simp [c6, few_r a ha, few_r b hb]
  cases hfa : fewM a
  · simp [awake_r]
  cases hfb : fewM b
  · simp [few_r b hb, hfb, awake_r]
  have fa := few_fit hfa
  have fb := few_fit hfb
  simp [few_r b hb, hfb, find_r a name fa.2.1, findR_r a name fa.2.1, awake_r, sameM_r a b fa fb, sameMR_r a b fa fb, sameM_r a a fa fa, eqv_refl]
end

theorem VRL_three {W : World} {u1 u2 u3 : Value} {v1 v2 v3 : PV} {ρ : Nat → Option (Nat × Nat)} {I : Nat → Prop} (h1 : VR ρ I W u1 v1) (h2 : VR ρ I W u2 v2) (h3 : VR ρ I W u3 v3) : VRL ρ I W #[u1, u2, u3] [v1, v2, v3] :=
  ⟨rfl, fun j hj => by
    have : j = 0 ∨ j = 1 ∨ j = 2 := by simp at hj; omega
    rcases this with rfl | rfl | rfl
    · exact h1
    · exact h2
    · exact h3⟩
def shStr : Sh := .str
theorem law_codeSame (x : shImage.den) (o : shImage.ok x) (y : shImage.den) (o' : shImage.ok y) (z : ByteArray) (_ : shStr.ok z) : ∃ g, CE T 6 [.agg (shImage.pv x), .agg (shImage.pv y), .str z] AH.zero (.bool true) g := by
  rw [mkImage_c, mkImage_c]
  have lim : ∀ (i : LImage), Okc.ok i → ∀ x ∈ i.datas, x.cons.length ≤ 9223372036854775807 := fun i hi x hx => by
    obtain ⟨⟨_, h1⟩, _⟩ := hi
    obtain ⟨_, ⟨h2, _⟩⟩ := h1 x hx
    have h3 : x.cons.length ≤ maxLen := h2
    have : maxLen ≤ 9223372036854775807 := by decide
    exact Nat.le_trans h3 this
  exact ⟨AH.zero, (CodeSame_p (mkImage x) (mkImage y) z (lim _ (mkImage_ok x o)) (lim _ (mkImage_ok y o'))).ce (by simp) (.inl rfl)⟩
end Go.Proofs.YtkaabknkabdfpaaGreatDoor

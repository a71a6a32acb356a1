/- What the reference's 'Laid' and 'in' compute. -/
import Derived.Test.YtpdgjdnipkmocaaF3
set_option linter.unusedVariables false
set_option linter.unusedSimpArgs false
namespace Go.Proofs.Ytpdgjdnipkmocaa
open Go.Ev

theorem laidR_in1 (l : List LInstr) (hl : l.length ≤ 1000) {κ : List KF} {s : Fr} {h : AH} {Q : Fr → AH → Prop} (e4 : s 4 = sl l) (e5 : s 5 = .int .i64 0)
   (h1 : endsOk l → ∀ s' h', (∀ t, t ∉ w27_1 → s' t = s t) → Grow h h' → WK T .skip κ s' h' Q)
   (h2 : ¬ endsOk l → ∀ s' h', s' 2 = .bool false → Q s' h') : WK T (.loop c27_1) (.block 2 :: κ) s h Q := by
  refine WK_loop tgrow (fun k s h => s 5 = .int .i64 (k : Nat) ∧ k ≤ l.length ∧ ∀ i (hi : i < l.length), i < k → isEndOp l[i].op = decide (i = l.length - 1)) l.length w27_1 (by decide) (by simp [e5]) ?_
  rintro k s' h' hk ⟨e5', _, hj⟩ hs hg
  have f4 : s' 4 = sl l := (hs 4 (by decide)).trans e4
  simp [c27_1, e5', f4]
  refine condS_split (fun hc => ?_) (fun hc => ?_) <;> simp at hc
  · have hw : IntKind.i64.wrap ((l.length : Int) - 1) = ((l.length - 1 : Nat) : Int) := by rw [w64 (by omega)]; omega
    have hd : decide ((k : Int) = ((l.length - 1 : Nat) : Int)) = decide (k = l.length - 1) := by rw [Bool.eq_iff_iff]; simp; omega
    simp [e5', f4, evIdx_nat, rd1_ptr, hc, hw, end_r, hd]
    by_cases hq : isEndOp l[k].op = decide (k = l.length - 1)
    · have hk2 : k < 9223372036854775807 := by omega
      simp [hq, e5', hc, hk2]
      refine ⟨by omega, ?_⟩
      intro i' hi' hlt
      rcases Nat.lt_succ_iff_lt_or_eq.1 hlt with q | q
      · exact hj i' hi' q
      · subst q; exact hq
    · have hb : (isEndOp l[k].op == decide (k = l.length - 1)) = false := by simpa using hq
      simp [hb]
      exact h2 (fun q => hq (q k hc)) _ _ (by simp)
  · simp
    refine h1 (fun i hi => hj i hi (by omega)) _ _ (fun t ht => ?_) hg
    have := hs t ht
    simp [w27_1] at ht
    simp [ht, this]

theorem laidR_in2 (p : LProc) (l : List Int) (hl : l.length ≤ 1000) {κ : List KF} {s : Fr} {h : AH} {Q : Fr → AH → Prop} (e1 : s 1 = .pi (Enc.c p)) (e6 : s 6 = sl l) (e9 : s 9 = .int .i64 0)
   (h1 : (∀ j ∈ l, 0 ≤ j ∧ j < (p.blocks.length : Int)) → ∀ s' h', (∀ t, t ∉ w27_2 → s' t = s t) → Grow h h' → WK T .skip κ s' h' Q)
   (h2 : ¬ (∀ j ∈ l, 0 ≤ j ∧ j < (p.blocks.length : Int)) → ∀ s' h', s' 2 = .bool false → Q s' h') : WK T (.loop c27_2) (.block 4 :: κ) s h Q := by
  refine WK_loop tgrow (fun k s h => s 9 = .int .i64 (k : Nat) ∧ k ≤ l.length ∧ ∀ j ∈ l.take k, 0 ≤ j ∧ j < (p.blocks.length : Int)) l.length w27_2 (by decide) (by simp [e9]) ?_
  rintro k s' h' hk ⟨e9', _, hj⟩ hs hg
  have f6 : s' 6 = sl l := (hs 6 (by decide)).trans e6
  have f1 : s' 1 = .pi (Enc.c p) := (hs 1 (by decide)).trans e1
  simp [c27_2, e9', f6]
  refine condS_split (fun hc => ?_) (fun hc => ?_) <;> simp at hc
  · have hk2 : k < 9223372036854775807 := by omega
    have bad : (l[k] < 0 ∨ (p.blocks.length : Int) ≤ l[k]) → ¬ (∀ j ∈ l, 0 ≤ j ∧ j < (p.blocks.length : Int)) := fun q r => by
      have := r _ (List.getElem_mem hc); omega
    have hkl : k < l.length := hc
    simp [e9', f6, f1, evIdx_nat, rd1_ptr, hkl]
    (repeat' ((first | refine gdS_split (fun hc => ?_) (fun hc => ?_) | refine condS_split (fun hc => ?_) (fun hc => ?_)) <;> (try simp at hc) <;> (try simp [hc, e9', f6, f1, evIdx_nat, rd1_ptr, hkl])))
    all_goals first
      | (refine h2 (bad ?_) _ _ (by simp); omega)
      | skip
    all_goals (try simp [hk2])
    all_goals refine ⟨by omega, mem_take_succ hkl hj ?_⟩
    all_goals omega
  · simp
    have hkn : k = l.length := by omega
    rw [hkn, List.take_length] at hj
    refine h1 hj _ _ (fun t ht => ?_) hg
    have := hs t ht
    simp [w27_2] at ht
    simp [ht, this]

theorem laidR_p (p : LProc) (hp : FitP p) : Pure T 27 [.agg (Enc.c p)] (.bool (laid p)) true := by
  refine ⟨c27, rfl, rfl, ?_⟩
  obtain ⟨hp1, hp2⟩ := hp
  simp [c27]
  refine condS_split (fun hx => ?_) (fun hx => ?_)
  · have : laid p = decide (p.blocks = []) := by
      by_cases hb : p.blocks = []
      · rw [laid_is ⟨by simp [hx, hb], by simp [hb]⟩]; simp [hb]
      · rw [laid_not fun q => hb (q.1.1 hx)]; simp [hb]
    simp [this]
  simp
  refine WK_loop tgrow (fun k s h => s 3 = .int .i64 (k : Nat) ∧ k ≤ p.blocks.length ∧ ∀ x ∈ p.blocks.take k, laidB p.blocks.length x) p.blocks.length w27_0 (by decide) (by simp) ?_
  rintro k s' h' hk ⟨e3, _, hj⟩ hs hg
  have f1 : s' 1 = .pi (Enc.c p) := (hs 1 (by decide)).trans (by simp)
  simp [c27_0, e3, f1]
  refine condS_split (fun hk' => ?_) (fun hc => ?_)
  case refine_2 =>
    simp at hc
    have hkn : k = p.blocks.length := by omega
    rw [hkn, List.take_length] at hj
    simp [f1]
    by_cases hb : p.blocks = []
    · rw [laid_not fun q => by have := q.1.2 hb; simp [hx] at this]
      simp [hb]
    · rw [laid_is ⟨by simp [hx, hb], hj⟩]
      have := List.length_pos_iff.2 hb
      simpa using this
  simp at hk'
  have bad : ¬ laidB p.blocks.length p.blocks[k] → laid p = false := fun q => laid_not fun r => q (r.2 _ (List.getElem_mem hk'))
  obtain ⟨fb1, fb2, fb3⟩ := hp2 _ (List.getElem_mem hk')
  simp [e3, f1, evIdx_nat, rd1_ptr, hk']
  refine condS_split (fun hc => ?_) (fun hc => ?_) <;> simp at hc
  · have : ¬ laidB p.blocks.length p.blocks[k] := fun ⟨x, q, _⟩ => by simp [hc] at q
    simp [bad this]
  simp
  have hl : 0 < p.blocks[k].code.length := List.length_pos_iff.2 hc
  have hlt : p.blocks[k].code.length - 1 < p.blocks[k].code.length := by omega
  have hlast : p.blocks[k].code.getLast? = some (p.blocks[k].code[p.blocks[k].code.length - 1]) := by
    rw [List.getLast?_eq_getElem?, List.getElem?_eq_getElem hlt]
  refine laidR_in1 p.blocks[k].code fb1 (by simp) (by simp) (fun q s2 h2 hs2 hg2 => ?_) (fun q s2 h2 e2 => ?_)
  case refine_2 =>
    have : laid p = false := bad fun ⟨_, _, q', _⟩ => q q'
    simp [e2, this]
  have e4 : s2 4 = sl p.blocks[k].code := (hs2 4 (by decide)).trans (by simp)
  have e1 : s2 1 = .pi (Enc.c p) := (hs2 1 (by decide)).trans (by simp [f1])
  have e3 : s2 3 = .int .i64 k := (hs2 3 (by decide)).trans (by simp [e3])
  have hw : IntKind.i64.wrap ((p.blocks[k].code.length : Int) - 1) = ((p.blocks[k].code.length - 1 : Nat) : Int) := by rw [w64 (by omega)]; omega
  simp [e1, e4, evIdx_nat, rd1_ptr, hw, hlt]
  have hjl : p.blocks[k].code[p.blocks[k].code.length - 1].jump.length ≤ 1000 := (fb3 _ (List.getElem_mem hlt)).2.2
  have lo : ∀ x, p.blocks[k].code[p.blocks[k].code.length - 1] = x → ¬ lastOk x → laid p = false := fun x ex hx => bad fun ⟨y, q1, _, q3, _⟩ => by
    rw [hlast, ex] at q1; cases q1; exact hx q3
  have jo : ∀ x, p.blocks[k].code[p.blocks[k].code.length - 1] = x → ¬ jumpsOk p.blocks.length x → laid p = false := fun x ex hx => bad fun ⟨y, q1, _, _, q4⟩ => by
    rw [hlast, ex] at q1; cases q1; exact hx q4
  have good : ∀ x, p.blocks[k].code[p.blocks[k].code.length - 1] = x → lastOk x → jumpsOk p.blocks.length x → laidB p.blocks.length p.blocks[k] := fun x ex h1 h2 => ⟨x, by rw [hlast, ex], q, h1, h2⟩
  generalize hx : p.blocks[k].code[p.blocks[k].code.length - 1] = x at *
  have lo := lo x rfl
  have jo := jo x rfl
  have good := good x rfl
  clear hs hs2 f1
  (repeat' ((first | refine gdS_split (fun hc => ?_) (fun hc => ?_) | refine condS_split (fun hc => ?_) (fun hc => ?_)) <;> (try simp at hc) <;> (try simp [hc])))
  all_goals first
    | (have : laid p = false := by
         refine lo ?_
         unfold lastOk; split <;> omega
       simp [this]; done)
    | skip
  all_goals refine laidR_in2 p x.jump hjl (by simp [e1]) (by first | (simp; done) | simp [hc]) (by simp) (fun q2 s3 h3 hs3 hg3 => ?_) (fun q2 s3 h3 e2 => ?_)
  all_goals first
    | (simp [e2, jo q2]; done)
    | skip
  all_goals
    have e33 : s3 3 = .int .i64 k := (hs3 3 (by decide)).trans (by simp [e3])
    have hk2 : k < 9223372036854775807 := by omega
    simp [e33, hk2]
    refine ⟨by omega, mem_take_succ hk' hj (good ?_ q2)⟩
    unfold lastOk; split
  all_goals first
    | omega
    | (right; simp [hc]; done)
    | (simp_all; done)
end Go.Proofs.Ytpdgjdnipkmocaa

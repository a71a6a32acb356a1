/- Few: which images the laws of chapter 47 speak of. -/
import Derived.Test.YtkaabknkabdfpaaGreatDoorS7
set_option linter.unusedVariables false
set_option linter.unusedSimpArgs false
namespace Go.Proofs.YtkaabknkabdfpaaGreatDoor
open Go.Ev

section
variable {o : Bool} {h : AH} {d : Option Nat} {r : List COper} {κ : List KF} {s : Fr} {Q : Fr → AH → Prop}

def nums (l : List ByteArray) : Bool := decide (l.length ≤ 20) && l.all fun x => decide (x.size ≤ 60)
theorem nums_p (l : List ByteArray) : Pure T 56 [sl l] (.bool (nums l)) true := by
  refine ⟨c56, rfl, rfl, ?_⟩
  simp [c56]
  refine WK_loop tgrow (fun k s h => s 3 = .int .i64 (k : Nat) ∧ ∀ x ∈ l.take k, x.size ≤ 60) 20 w56_0 (by decide) (by simp) ?_
  rintro k s' h' hk ⟨e3, hj⟩ hs hg
  have f0 : s' 0 = sl l := (hs 0 (by decide)).trans (by simp)
  simp [c56_0, e3, f0]
  have fin : ¬ (k < l.length ∧ k < 20) → decide (l.length ≤ 20) = nums l := fun q => by
    unfold nums
    by_cases h20 : l.length ≤ 20
    · have : l.take k = l := List.take_of_length_le (by omega)
      rw [this] at hj
      have : l.all (fun x => decide (x.size ≤ 60)) = true := List.all_eq_true.2 fun x hx => by simpa using hj x hx
      simp [this]
    · simp [h20]
  refine gdS_split (fun hkl => ?_) (fun hkl => ?_) <;> simp at hkl
  · simp [e3, f0]
    refine condS_split (fun h20 => ?_) (fun h20 => ?_) <;> simp at h20
    · have hk2 : k < 9223372036854775807 := by omega
      simp [e3, f0, evIdx_nat, rd1_ptr, hkl]
      refine condS_split (fun hq => ?_) (fun hq => ?_) <;> simp at hq
      · have : nums l = false := by
          unfold nums
          have : l.all (fun x => decide (x.size ≤ 60)) = false := List.all_eq_false.2 ⟨_, List.getElem_mem hkl, by simp; omega⟩
          simp [this]
        simp [this]
      · have := mem_take_succ (P := fun x => x.size ≤ 60) hkl hj (by omega)
        simp [e3, hk2, h20]
        exact ⟨by omega, this⟩
    · simp [f0, ← fin (by omega)]
      omega
  · simp [f0, ← fin (by omega)]
    omega
theorem nums_r (l : List ByteArray) : pureK T 56 (some [sl l]) o h d r κ s Q = WR T r κ (Fr.put s d (.bool (nums l))) h Q := pureK_eq (nums_p l) (.inl rfl)

def fewI (x : LInstr) : Bool := decide (x.args.length ≤ 20) && decide (x.more.length ≤ 20) && decide (x.jump.length ≤ 20)
def fewB (b : LBlock) : Bool := decide (b.free.size ≤ 60) && decide (b.regs.length ≤ 20) && decide (b.code.length ≤ 30) && (b.regs.all fun r => nums r.pot) && b.code.all fewI

theorem all_bad {α : Type} {p : α → Bool} {l : List α} {k : Nat} (hk : k < l.length) (h : ¬ p l[k] = true) : l.all p = false := List.all_eq_false.2 ⟨_, List.getElem_mem hk, h⟩

theorem fewB_p (b : LBlock) : Pure T 57 [.agg (Enc.c b)] (.bool (fewB b)) true := by
  refine ⟨c57, rfl, rfl, ?_⟩
  simp [c57]
  (repeat' ((first | refine gdS_split (fun hc => ?_) (fun hc => ?_) | refine condS_split (fun hc => ?_) (fun hc => ?_)) <;> (try simp at hc) <;> (try simp [hc])))
  all_goals first
    | (have : fewB b = false := by
         unfold fewB
         simp only [Bool.and_eq_false_iff, decide_eq_false_iff_not]
         omega
       simp [this]; done)
    | skip
  refine WK_loop tgrow (fun k s h => s 3 = .int .i64 (k : Nat) ∧ ∀ x ∈ b.regs.take k, nums x.pot = true) b.regs.length w57_0 (by decide) (by simp) ?_
  rintro k s' h' hk ⟨e3, hj⟩ hs hg
  have f1 : s' 1 = .pi (Enc.c b) := (hs 1 (by decide)).trans (by simp)
  simp [c57_0, e3, f1]
  refine condS_split (fun hkl => ?_) (fun hkl => ?_) <;> simp at hkl
  · have hk2 : k < 9223372036854775807 := by omega
    simp [e3, f1, evIdx_nat, rd1_ptr, hkl, nums_r]
    refine condS_split (fun hq => ?_) (fun hq => ?_) <;> simp at hq
    · have : fewB b = false := by
        unfold fewB
        have := all_bad (p := fun r => nums r.pot) hkl (by simp [hq])
        simp [this]
      simp [this]
    · have := mem_take_succ (P := fun x => nums x.pot = true) hkl hj hq
      simp [e3, hk2, hkl]
      exact this
  have hj : b.regs.all (fun r => nums r.pot) = true := List.all_eq_true.2 (by rw [show k = b.regs.length by omega, List.take_length] at hj; exact hj)
  simp
  refine WK_loop tgrow (fun k s h => s 4 = .int .i64 (k : Nat) ∧ ∀ x ∈ b.code.take k, fewI x = true) b.code.length w57_1 (by decide) (by simp) ?_
  rintro k s2 h2 hk ⟨e4, hjj⟩ hs2 hg2
  have f1 : s2 1 = .pi (Enc.c b) := (hs2 1 (by decide)).trans (by simp [f1])
  have hlo := hg2.low (hg.low (by simp))
  simp [c57_1, e4, f1]
  refine condS_split (fun hkl => ?_) (fun hkl => ?_) <;> simp at hkl
  · have hk2 : k < 9223372036854775807 := by omega
    simp [e4, f1, evIdx_nat, rds_ptr, hkl, hlo]
    have bad : fewI b.code[k] = false → fewB b = false := fun q => by
      unfold fewB
      rw [all_bad (p := fewI) hkl (by simp [q])]
      simp
    (repeat' ((first | refine gdS_split (fun hc => ?_) (fun hc => ?_) | refine condS_split (fun hc => ?_) (fun hc => ?_)) <;> (try simp at hc) <;> (try simp [hc])))
    all_goals first
      | (have : fewI b.code[k] = false := by
           unfold fewI
           simp only [Bool.and_eq_false_iff, decide_eq_false_iff_not]
           omega
         simp [bad this]; done)
      | (have : fewI b.code[k] = true := by
           unfold fewI
           simp only [Bool.and_eq_true, decide_eq_true_eq]
           omega
         have := mem_take_succ (P := fun x => fewI x = true) hkl hjj this
         simp [e4, hk2, hkl]
         exact this)
  have hjj : b.code.all fewI = true := List.all_eq_true.2 (by rw [show k = b.code.length by omega, List.take_length] at hjj; exact hjj)
  have : fewB b = true := by
    unfold fewB
    rw [hj, hjj]
    simp only [Bool.and_eq_true, decide_eq_true_eq, and_true]
    omega
  simp [this]
theorem fewB_r (b : LBlock) : pureK T 57 (some [.agg [sl b.regs, PV.str b.free, sl b.code]]) o h d r κ s Q = WR T r κ (Fr.put s d (.bool (fewB b))) h Q := pureK_eq (fewB_p b) (.inl rfl)

def fewP (p : LProc) : Bool := decide (p.name.size ≤ 80) && decide (p.params.length ≤ 8) && decide (p.sig.params.length ≤ 8) && decide (p.blocks.length ≤ 12) && decide (p.sig.base.size ≤ 60) && decide (p.sig.rest.size ≤ 60) && nums p.sig.result && p.sig.params.all nums && p.blocks.all fewB

set_option maxHeartbeats 1000000 in
theorem fewP_p (p : LProc) : Pure T 20 [.agg (Enc.c p)] (.bool (fewP p)) true := by
  refine ⟨c20, rfl, rfl, ?_⟩
  simp [c20]
  (repeat' ((first | refine gdS_split (fun hc => ?_) (fun hc => ?_) | refine condS_split (fun hc => ?_) (fun hc => ?_)) <;> (try simp at hc) <;> (try simp [hc, nums_r])))
  all_goals first
    | (have : fewP p = false := by
         unfold fewP
         simp only [Bool.and_eq_false_iff, decide_eq_false_iff_not]
         omega
       simp [this]; done)
    | (have : fewP p = false := by
         unfold fewP
         simp [*]
       simp [this]; done)
    | skip
  refine WK_loop tgrow (fun k s h => s 3 = .int .i64 (k : Nat) ∧ ∀ x ∈ p.sig.params.take k, nums x = true) p.sig.params.length w20_0 (by decide) (by simp) ?_
  rintro k s' h' hk ⟨e3, hj⟩ hs hg
  have f1 : s' 1 = .pi (Enc.c p) := (hs 1 (by decide)).trans (by simp)
  simp [c20_0, e3, f1]
  refine condS_split (fun hkl => ?_) (fun hkl => ?_) <;> simp at hkl
  · have hk2 : k < 9223372036854775807 := by omega
    simp [e3, f1, evIdx_nat, rd1_ptr, hkl, nums_r]
    refine condS_split (fun hq => ?_) (fun hq => ?_) <;> simp at hq
    · have : fewP p = false := by
        unfold fewP
        have := all_bad (p := nums) hkl (by simp [hq])
        simp [this]
      simp [this]
    · have := mem_take_succ (P := fun x => nums x = true) hkl hj hq
      simp [e3, hk2, hkl]
      exact this
  have hj : p.sig.params.all nums = true := List.all_eq_true.2 (by rw [show k = p.sig.params.length by omega, List.take_length] at hj; exact hj)
  simp
  refine WK_loop tgrow (fun k s h => s 4 = .int .i64 (k : Nat) ∧ ∀ x ∈ p.blocks.take k, fewB x = true) p.blocks.length w20_1 (by decide) (by simp) ?_
  rintro k s2 h2 hk ⟨e4, hjj⟩ hs2 hg2
  have f1 : s2 1 = .pi (Enc.c p) := (hs2 1 (by decide)).trans (by simp [f1])
  simp [c20_1, e4, f1]
  refine condS_split (fun hkl => ?_) (fun hkl => ?_) <;> simp at hkl
  · have hk2 : k < 9223372036854775807 := by omega
    simp [e4, f1, evIdx_nat, rds_ptr, hkl, fewB_r p.blocks[k]]
    refine condS_split (fun hq => ?_) (fun hq => ?_) <;> simp at hq
    · have : fewP p = false := by
        unfold fewP
        have := all_bad (p := fewB) hkl (by simp [hq])
        simp [this]
      simp [this]
    · have := mem_take_succ (P := fun x => fewB x = true) hkl hjj hq
      simp [e4, hk2, hkl]
      exact this
  have hjj : p.blocks.all fewB = true := List.all_eq_true.2 (by rw [show k = p.blocks.length by omega, List.take_length] at hjj; exact hjj)
  have : fewP p = true := by
    unfold fewP
    rw [hj, hjj]
    simp only [Bool.and_eq_true, decide_eq_true_eq, and_true]
    simp [*]
    omega
  simp [this]
theorem fewP_r (p : LProc) : pureK T 20 (some [.agg [PV.str p.name, sl p.params, PV.int .i64 p.result, sl p.sig.params, PV.str p.sig.base, sl p.sig.result, PV.str p.sig.rest, sl p.blocks, PV.bool p.extern]]) o h d r κ s Q = WR T r κ (Fr.put s d (.bool (fewP p))) h Q := pureK_eq (fewP_p p) (.inl rfl)
end
end Go.Proofs.YtkaabknkabdfpaaGreatDoor

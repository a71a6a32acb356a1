/- The law BlocksTidy, evaluated. -/
import Derived.Test.YtpdgjdnipkmocaaG9
set_option linter.unusedVariables false
set_option linter.unusedSimpArgs false
namespace Go.Proofs.Ytpdgjdnipkmocaa
open Go.Ev

theorem fit_of {p : LProc} (h : fewP p = true) (hs : Smc.sm 1048576 p) : Fit p := by
  have h0 := few_fit h
  simp only [fewP, Bool.and_eq_true, decide_eq_true_eq, List.all_eq_true] at h
  obtain ⟨_, _, _, ⟨s1, _, s3, _⟩, s4, _⟩ := hs
  refine ⟨h0, ⟨by omega, by omega, fun l hl => ?_, ?_⟩, fun b hb x hx => ?_⟩
  · exact Nat.le_trans (s1.2 l hl).1 (by decide)
  · exact Nat.le_trans s3.1 (by decide)
  · obtain ⟨b1, _⟩ := s4.2 b hb
    obtain ⟨_, _, _, q⟩ := b1.2 x hx
    exact Nat.le_trans q.1 (by decide)

theorem tidyB_fit {l : List Int} {b : LBlock} (fb : FitB b) : FitB (tidyB l b) := by
  obtain ⟨h1, h2, h3⟩ := fb
  have key : ∀ x ∈ b.code, FitI (tidyI l x) := fun x hx => by
    have := h3 x hx
    simp only [tidyI]
    split
    · obtain ⟨q1, q2, q3⟩ := this
      exact ⟨q1, q2, by simpa using q3⟩
    · exact this
  refine ⟨?_, h2, fun x hx => ?_⟩
  · simp only [tidyB, tidyC]
    split
    · simp
    · simp; omega
  · simp only [tidyB, tidyC] at hx
    split at hx
    · cases hx
    · rename_i y hy
      rcases List.mem_append.1 hx with q | q
      · exact h3 x ((List.dropLast_sublist b.code).subset q)
      · rw [List.mem_singleton.1 q]
        exact key y (List.mem_of_getLast? hy)

theorem blockAt_mem {p : LProc} {a : Int} (h : a.toNat < p.blocks.length) : blockAt p a ∈ p.blocks := by
  simp only [blockAt, List.getElem?_eq_getElem h, Option.getD_some]
  exact List.getElem_mem h

theorem tidyP_fit {p : LProc} (h : Fit p) : Fit (tidyP p) := by
  have hN := order_nums p
  have hm : ∀ b ∈ (tidyP p).blocks, ∃ b0 ∈ p.blocks, b = tidyB (order p) b0 := fun b hb => by
    simp only [tidyP, List.mem_map] at hb
    obtain ⟨a, ha, rfl⟩ := hb
    have := hN.2 a ha
    exact ⟨_, blockAt_mem (by omega), rfl⟩
  refine ⟨⟨?_, fun b hb => ?_⟩, h.2.1, fun b hb x hx => ?_⟩
  · have := hN.length; have := h.1.1; simp only [tidyP, List.length_map]; omega
  · obtain ⟨b0, h0, rfl⟩ := hm b hb; exact tidyB_fit (h.1.2 b0 h0)
  · obtain ⟨b0, h0, rfl⟩ := hm b hb; exact h.2.2 b0 h0 x hx

theorem fitC_of {p : LProc} (h : Fit p) : FitC p := by
  obtain ⟨⟨h1, h2⟩, ⟨q1, q2, q3, q4⟩, h3⟩ := h
  exact ⟨by omega, by omega, fun l hl => by have := q3 l hl; omega, by omega, h1, fun b hb => ⟨h2 b hb, fun x hx => by have := h3 b hb x hx; omega⟩⟩

section
variable {h : AH} {d : Option Nat} {r : List COper} {κ : List KF} {s : Fr} {Q : Fr → AH → Prop}
theorem Tidy_r (p : LProc) (hp : Fit p) : pureK T 19 (some [.agg [PV.str p.name, sl p.params, PV.int .i64 p.result, sl p.sig.params, PV.str p.sig.base, sl p.sig.result, PV.str p.sig.rest, sl p.blocks, PV.bool p.extern]]) false h d r κ s Q = WR T r κ (Fr.put s d (if laid p = true then .tup [.agg (Enc.c (tidyP p)), .int .i64 0] else .tup [.agg (Enc.c zeroP), .int .i64 22])) h Q := pureK_eq (Tidy_p p hp) (.inr rfl)
theorem TidyR_r (p : LProc) (hp : FitP p) : pureK T 20 (some [.agg [PV.str p.name, sl p.params, PV.int .i64 p.result, sl p.sig.params, PV.str p.sig.base, sl p.sig.result, PV.str p.sig.rest, sl p.blocks, PV.bool p.extern]]) false h d r κ s Q = WR T r κ (Fr.put s d (if laid p = true then .tup [.agg (Enc.c (tidyP p)), .bool true] else .tup [.agg (Enc.c zeroP), .bool false])) h Q := pureK_eq (TidyR_p p hp) (.inr rfl)
end

theorem BlocksTidy_p (p : LProc) (hs : Smc.sm 1048576 p) : Pure T 4 [.agg (Enc.c p)] (.bool true) true := by
  refine ⟨c4, rfl, rfl, ?_⟩
  simp [c4, few_r p]
  refine condS_split (fun hc => ?_) (fun hc => ?_) <;> simp at hc
  · simp [awake_r]
  have hp := fit_of hc hs
  simp [Tidy_r p hp, TidyR_r p hp.1]
  cases hl : laid p
  · simp [TidyR_r p hp.1, hl, zeroP, awake_r]
  · simp [TidyR_r p hp.1, hl, sameProc_r (tidyP p) (tidyP p) (fitC_of (tidyP_fit hp)) (fitC_of (tidyP_fit hp)), eqv_refl, awake_r]

theorem law_blocksTidy (x : shProc.den) (o : shProc.ok x ∧ shProc.small 1048576 x) : ∃ g, CE T 4 [.agg (shProc.pv x)] AH.zero (.bool true) g := by
  rw [mkProc_c]
  exact ⟨AH.zero, (BlocksTidy_p (mkProc x) (mkProc_sm x o.2)).ce (by simp) (.inl rfl)⟩
end Go.Proofs.Ytpdgjdnipkmocaa

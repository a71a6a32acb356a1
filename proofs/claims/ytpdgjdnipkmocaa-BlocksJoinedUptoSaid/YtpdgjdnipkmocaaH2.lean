/- 'Same', the program's and the reference's; the laws BlocksSame and BlocksOrder, evaluated. -/
import Derived.Test.YtpdgjdnipkmocaaH1
set_option linter.unusedVariables false
set_option linter.unusedSimpArgs false
namespace Go.Proofs.Ytpdgjdnipkmocaa
open Go.Ev

section
variable {o : Bool} {h : AH} {d : Option Nat} {r : List COper} {κ : List KF} {s : Fr} {Q : Fr → AH → Prop}

theorem eqv_congr {α β : Type} {a b : α} {c d : β} (h : a = b ↔ c = d) : eqv a b = eqv c d := by
  by_cases q : a = b
  · rw [eqv_iff.2 q, eqv_iff.2 (h.1 q)]
  · rw [eqv_ne q, eqv_ne fun r => q (h.2 r)]
theorem eqv_map_id {α : Type} (a b : List α) : eqv (a.map id) (b.map id) = eqv a b := by rw [List.map_id, List.map_id]
theorem efInstr_r (a b : List LInstr) (ha : a.length ≤ 1000000) (hf : ∀ x ∈ a, FitI x) : pureK T 104 (some [sl a, sl b, .fn 105 [] []]) o h d r κ s Q = WR T r κ (Fr.put s d (.bool (eqv a b))) h Q := by
  rw [← eqv_map_id a b]
  exact pureK_eq (efInstr_p id a b _ (by decide) (fun x hx y _ => sameInstrC_p x y (hf x hx)) ha) (.inl rfl)
theorem efReg_r (a b : List LReg) (ha : a.length ≤ 1000000) (hf : ∀ x ∈ a, x.pot.length ≤ 10000000) : pureK T 101 (some [sl a, sl b, .fn 103 [] []]) o h d r κ s Q = WR T r κ (Fr.put s d (.bool (eqv a b))) h Q := by
  rw [← eqv_map_id a b]
  exact pureK_eq (efReg_p id a b _ (by decide) (fun x hx y _ => sameRegC_p x y (hf x hx)) ha) (.inl rfl)

theorem live_len (l : List LReg) : (live l).length ≤ l.length := by unfold live; rw [List.length_take]; omega

theorem sameBlockC_p (a b : LBlock) (ha : FitB a) (hb : b.regs.length ≤ 1000000) (hpa : ∀ x ∈ a.regs, x.pot.length ≤ 10000000) (hpb : ∀ x ∈ b.regs, x.pot.length ≤ 10000000) : Pure T 94 [.agg (Enc.c a), .agg (Enc.c b)] (.bool (eqv (normB a) (normB b))) true := by
  refine ⟨c94, rfl, rfl, ?_⟩
  obtain ⟨l1, l2, l3⟩ := ha
  have la := live_len a.regs
  simp [c94, trimmed_r a.regs (by omega) hpa, trimmed_r b.regs hb hpb, efReg_r (live a.regs) (live b.regs) (by omega) (fun x hx => hpa x (live_mem hx)), efInstr_r a.code b.code (by omega) l3]
  (repeat' ((first | refine gdS_split (fun hc => ?_) (fun hc => ?_) | refine condS_split (fun hc => ?_) (fun hc => ?_)) <;> (try simp at hc) <;> (try simp [trimmed_r a.regs (by omega) hpa, trimmed_r b.regs hb hpb, efReg_r (live a.regs) (live b.regs) (by omega) (fun x hx => hpa x (live_mem hx)), efInstr_r a.code b.code (by omega) l3])))
  all_goals clear l3 la l1 l2 hpa hpb
  all_goals first
    | (simp_all [eqv, normB]; done)
    | exact eqv_congr (by simp_all [eqv, normB])

theorem efBlock_r (a b : List LBlock) (ha : a.length ≤ 1000) (hf : ∀ x ∈ a, FitB x ∧ ∀ y ∈ x.regs, y.pot.length ≤ 10000000) (hg : ∀ x ∈ b, FitB x ∧ ∀ y ∈ x.regs, y.pot.length ≤ 10000000) : pureK T 93 (some [sl a, sl b, .fn 94 [] []]) o h d r κ s Q = WR T r κ (Fr.put s d (.bool (eqv (a.map normB) (b.map normB)))) h Q :=
  pureK_eq (efBlock_p normB a b _ (by decide) (fun x hx y hy => sameBlockC_p x y (hf x hx).1 (by have := (hg y hy).1.2.1; omega) (hf x hx).2 (hg y hy).2) (by omega)) (.inl rfl)

theorem sameProcC_p (a b : LProc) (ha : FitC a) (hb : FitC b) : Pure T 76 [.agg (Enc.c a), .agg (Enc.c b)] (.bool (eqv (normP a) (normP b))) true := by
  refine ⟨c76, rfl, rfl, ?_⟩
  obtain ⟨a1, a2, a3, a4, a5, a6⟩ := ha
  obtain ⟨b1, b2, b3, b4, b5, b6⟩ := hb
  have e1 := fun {o h d r κ s Q} => eqVar_r (o := o) (h := h) (d := d) (r := r) (κ := κ) (s := s) (Q := Q) a.params b.params a1
  have e2 := fun {o h d r κ s Q} => eqStr_r (o := o) (h := h) (d := d) (r := r) (κ := κ) (s := s) (Q := Q) a.sig.result b.sig.result a4
  have e3 := fun {o h d r κ s Q} => efStrs_r (o := o) (h := h) (d := d) (r := r) (κ := κ) (s := s) (Q := Q) a.sig.params b.sig.params a2 a3
  have e4 := fun {o h d r κ s Q} => efBlock_r (o := o) (h := h) (d := d) (r := r) (κ := κ) (s := s) (Q := Q) a.blocks b.blocks a5 a6 b6
  simp [c76, e1, e2, e3, e4, beq_eqv]
  (repeat' ((first | refine gdS_split (fun hc => ?_) (fun hc => ?_) | refine condS_split (fun hc => ?_) (fun hc => ?_)) <;> (try simp at hc) <;> (try simp [e1, e2, e3, e4, beq_eqv])))
  all_goals clear e1 e2 e3 e4 a6 b6 a3 b3
  all_goals obtain ⟨p1, p2, p3, ⟨q1, q2, q3, q4⟩, p5, p6⟩ := a
  all_goals obtain ⟨u1, u2, u3, ⟨w1, w2, w3, w4⟩, u5, u6⟩ := b
  all_goals first
    | (simp_all [eqv, normP]; done)
    | exact eqv_congr (by simp_all [eqv, normP])

theorem efData_p : Pure T 71 [sl ([] : List Int), sl ([] : List Int), .fn 72 [] []] (.bool true) true := by
  refine ⟨c71, rfl, rfl, ?_⟩
  simp [c71]
  refine WK_range tgrow (fun k s h => True) 0 w71_0 rfl (by decide) (by simp) (by simp) (by omega) (by decide) (fun _ _ _ _ j _ => j) trivial (fun k s' h' hk => absurd hk (by omega)) ?_
  intro s' h' _ hs hg
  simp
theorem efProc_r (a b : LProc) (ha : FitC a) (hb : FitC b) : pureK T 75 (some [.sl 1 [PV.str a.name, sl a.params, PV.int .i64 a.result, sl a.sig.params, PV.str a.sig.base, sl a.sig.result, PV.str a.sig.rest, sl a.blocks, PV.bool a.extern], .sl 1 [PV.str b.name, sl b.params, PV.int .i64 b.result, sl b.sig.params, PV.str b.sig.base, sl b.sig.result, PV.str b.sig.rest, sl b.blocks, PV.bool b.extern], .fn 76 [] []]) o h d r κ s Q = WR T r κ (Fr.put s d (.bool (eqv (normP a) (normP b)))) h Q := by
  have := pureK_eq (o := o) (h := h) (d := d) (r := r) (κ := κ) (s := s) (Q := Q) (efProc_p normP [a] [b] 76 (by decide) (fun x hx y hy => by rw [List.mem_singleton.1 hx, List.mem_singleton.1 hy]; exact sameProcC_p a b ha hb) (by simp)) (.inl rfl)
  have e : eqv ([a].map normP) ([b].map normP) = eqv (normP a) (normP b) := by simp [eqv]
  rw [e] at this
  exact this

theorem codeSame_p (a b : LProc) (ha : FitC a) (hb : FitC b) : Pure T 49 [.agg [sl ([] : List Int), .sl 1 [PV.str a.name, sl a.params, PV.int .i64 a.result, sl a.sig.params, PV.str a.sig.base, sl a.sig.result, PV.str a.sig.rest, sl a.blocks, PV.bool a.extern]], .agg [sl ([] : List Int), .sl 1 [PV.str b.name, sl b.params, PV.int .i64 b.result, sl b.sig.params, PV.str b.sig.base, sl b.sig.result, PV.str b.sig.rest, sl b.blocks, PV.bool b.extern]]] (.bool (eqv (normP a) (normP b))) true := by
  refine ⟨c49, rfl, rfl, ?_⟩
  simp [c49, pureK_eq efData_p (.inl rfl), evLen, efProc_r a b ha hb]
theorem codeSame_r (a b : LProc) (ha : FitC a) (hb : FitC b) : pureK T 49 (some [.agg [sl ([] : List Int), .sl 1 [PV.str a.name, sl a.params, PV.int .i64 a.result, sl a.sig.params, PV.str a.sig.base, sl a.sig.result, PV.str a.sig.rest, sl a.blocks, PV.bool a.extern]], .agg [sl ([] : List Int), .sl 1 [PV.str b.name, sl b.params, PV.int .i64 b.result, sl b.sig.params, PV.str b.sig.base, sl b.sig.result, PV.str b.sig.rest, sl b.blocks, PV.bool b.extern]]]) o h d r κ s Q = WR T r κ (Fr.put s d (.bool (eqv (normP a) (normP b)))) h Q := pureK_eq (codeSame_p a b ha hb) (.inl rfl)

noncomputable def sameP (a b : LProc) : Bool := laid a && laid b && eqv (normP (tidyP a)) (normP (tidyP b))

theorem Same_p (a b : LProc) (ha : Fit a) (hb : Fit b) : Pure T 25 [.agg (Enc.c a), .agg (Enc.c b)] (.bool (sameP a b)) true := by
  refine ⟨c25, rfl, rfl, ?_⟩
  simp [c25, laid_r a ha.1, laid_r b hb.1]
  cases hla : laid a
  · simp [sameP, hla]
  cases hlb : laid b
  · simp [sameP, hla, hlb, laid_r b hb.1]
  have hca := fitC_of (tidyP_fit ha)
  have hcb := fitC_of (tidyP_fit hb)
  simp [laid_r b hb.1, hlb, tidy_r a ha hla, tidy_r b hb hlb, codeSame_r (tidyP a) (tidyP b) hca hcb, sameP, hla]
theorem Same_r (a b : LProc) (ha : Fit a) (hb : Fit b) : pureK T 25 (some [.agg [PV.str a.name, sl a.params, PV.int .i64 a.result, sl a.sig.params, PV.str a.sig.base, sl a.sig.result, PV.str a.sig.rest, sl a.blocks, PV.bool a.extern], .agg [PV.str b.name, sl b.params, PV.int .i64 b.result, sl b.sig.params, PV.str b.sig.base, sl b.sig.result, PV.str b.sig.rest, sl b.blocks, PV.bool b.extern]]) o h d r κ s Q = WR T r κ (Fr.put s d (.bool (sameP a b))) h Q := pureK_eq (Same_p a b ha hb) (.inl rfl)

theorem SameR_p (a b : LProc) (ha : Fit a) (hb : Fit b) : Pure T 26 [.agg (Enc.c a), .agg (Enc.c b)] (.bool (sameP a b)) true := by
  refine ⟨c26, rfl, rfl, ?_⟩
  have hca := fitC_of (tidyP_fit ha)
  have hcb := fitC_of (tidyP_fit hb)
  simp [c26, TidyR_r a ha.1, TidyR_r b hb.1]
  cases hla : laid a <;> cases hlb : laid b
  · simp [sameP, hla, hlb, TidyR_r b hb.1, zeroP]
  · simp [sameP, hla, hlb, TidyR_r b hb.1, zeroP]
  · simp [sameP, hla, hlb, TidyR_r b hb.1, zeroP]
  · simp [sameP, hla, hlb, TidyR_r b hb.1, sameProc_r (tidyP a) (tidyP b) hca hcb]
theorem SameR_r (a b : LProc) (ha : Fit a) (hb : Fit b) : pureK T 26 (some [.agg [PV.str a.name, sl a.params, PV.int .i64 a.result, sl a.sig.params, PV.str a.sig.base, sl a.sig.result, PV.str a.sig.rest, sl a.blocks, PV.bool a.extern], .agg [PV.str b.name, sl b.params, PV.int .i64 b.result, sl b.sig.params, PV.str b.sig.base, sl b.sig.result, PV.str b.sig.rest, sl b.blocks, PV.bool b.extern]]) o h d r κ s Q = WR T r κ (Fr.put s d (.bool (sameP a b))) h Q := pureK_eq (SameR_p a b ha hb) (.inl rfl)

theorem BlocksSame_p (a b : LProc) (hsa : Smc.sm 1048576 a) (hsb : Smc.sm 1048576 b) : Pure T 7 [.agg (Enc.c a), .agg (Enc.c b)] (.bool true) true := by
  refine ⟨c7, rfl, rfl, ?_⟩
  simp [c7, few_r a, few_r b]
  cases hfa : fewP a
  · simp [awake_r]
  cases hfb : fewP b
  · simp [few_r b, hfb, awake_r]
  have ha := fit_of hfa hsa
  have hb := fit_of hfb hsb
  have e : sameP a a = laid a := by cases h : laid a <;> simp [sameP, h, eqv_refl]
  simp [few_r b, hfb, Same_r a b ha hb, SameR_r a b ha hb, Same_r a a ha ha, laidR_r a ha.1, e, awake_r]
end

theorem law_blocksSame (x : shProc.den) (o : shProc.ok x ∧ shProc.small 1048576 x) (y : shProc.den) (o' : shProc.ok y ∧ shProc.small 1048576 y) : ∃ g, CE T 7 [.agg (shProc.pv x), .agg (shProc.pv y)] AH.zero (.bool true) g := by
  rw [mkProc_c, mkProc_c]
  exact ⟨AH.zero, (BlocksSame_p (mkProc x) (mkProc y) (mkProc_sm x o.2) (mkProc_sm y o'.2)).ce (by simp) (.inl rfl)⟩
end Go.Proofs.Ytpdgjdnipkmocaa

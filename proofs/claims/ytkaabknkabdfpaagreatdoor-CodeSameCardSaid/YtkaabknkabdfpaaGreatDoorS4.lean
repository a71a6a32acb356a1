/- Comparison of procedures: the program's. -/
import Derived.Test.YtkaabknkabdfpaaGreatDoorS3
set_option linter.unusedVariables false
set_option linter.unusedSimpArgs false
namespace Go.Proofs.YtkaabknkabdfpaaGreatDoor
open Go.Ev

section
variable {o : Bool} {h : AH} {d : Option Nat} {r : List COper} {κ : List KF} {s : Fr} {Q : Fr → AH → Prop}

theorem eqv_congr {α β : Type} {a b : α} {c d : β} (h : a = b ↔ c = d) : eqv a b = eqv c d := by
  by_cases q : a = b
  · rw [eqv_iff.2 q, eqv_iff.2 (h.1 q)]
  · rw [eqv_ne q, eqv_ne fun r => q (h.2 r)]
theorem eqv_map_id {α : Type} (a b : List α) : eqv (a.map id) (b.map id) = eqv a b := by rw [List.map_id, List.map_id]
theorem efInstr_r (a b : List LInstr) (ha : a.length ≤ 1000000) (hf : ∀ x ∈ a, FitI x) : pureK T 182 (some [sl a, sl b, .fn 183 [] []]) o h d r κ s Q = WR T r κ (Fr.put s d (.bool (eqv a b))) h Q := by
  rw [← eqv_map_id a b]
  exact pureK_eq (efInstr_p id a b _ (by decide) (fun x hx y _ => sameInstrC_p x y (hf x hx)) ha) (.inl rfl)
theorem efReg_r (a b : List LReg) (ha : a.length ≤ 1000000) (hf : ∀ x ∈ a, x.pot.length ≤ 10000000) : pureK T 180 (some [sl a, sl b, .fn 131 [] []]) o h d r κ s Q = WR T r κ (Fr.put s d (.bool (eqv a b))) h Q := by
  rw [← eqv_map_id a b]
  exact pureK_eq (efReg_p id a b _ (by decide) (fun x hx y _ => sameRegC_p x y (hf x hx)) ha) (.inl rfl)

theorem live_len (l : List LReg) : (live l).length ≤ l.length := by unfold live; rw [List.length_take]; omega

theorem sameBlockC_p (a b : LBlock) (ha : FitB a) (hb : b.regs.length ≤ 1000000) (hpa : ∀ x ∈ a.regs, x.pot.length ≤ 10000000) (hpb : ∀ x ∈ b.regs, x.pot.length ≤ 10000000) : Pure T 115 [.agg (Enc.c a), .agg (Enc.c b)] (.bool (eqv (normB a) (normB b))) true := by
  refine ⟨c115, rfl, rfl, ?_⟩
  obtain ⟨l1, l2, l3⟩ := ha
  have la := live_len a.regs
  simp [c115, trimmed_r a.regs (by omega) hpa, trimmed_r b.regs hb hpb, efReg_r (live a.regs) (live b.regs) (by omega) (fun x hx => hpa x (live_mem hx)), efInstr_r a.code b.code (by omega) l3]
  (repeat' ((first | refine gdS_split (fun hc => ?_) (fun hc => ?_) | refine condS_split (fun hc => ?_) (fun hc => ?_)) <;> (try simp at hc) <;> (try simp [trimmed_r a.regs (by omega) hpa, trimmed_r b.regs hb hpb, efReg_r (live a.regs) (live b.regs) (by omega) (fun x hx => hpa x (live_mem hx)), efInstr_r a.code b.code (by omega) l3])))
  all_goals clear l3 la l1 l2 hpa hpb
  all_goals first
    | (simp_all [eqv, normB]; done)
    | exact eqv_congr (by simp_all [eqv, normB])

theorem efBlock_r (a b : List LBlock) (ha : a.length ≤ 1000) (hf : ∀ x ∈ a, FitB x ∧ ∀ y ∈ x.regs, y.pot.length ≤ 10000000) (hg : ∀ x ∈ b, FitB x ∧ ∀ y ∈ x.regs, y.pot.length ≤ 10000000) : pureK T 114 (some [sl a, sl b, .fn 115 [] []]) o h d r κ s Q = WR T r κ (Fr.put s d (.bool (eqv (a.map normB) (b.map normB)))) h Q :=
  pureK_eq (efBlock_p normB a b _ (by decide) (fun x hx y hy => sameBlockC_p x y (hf x hx).1 (by have := (hg y hy).1.2.1; omega) (hf x hx).2 (hg y hy).2) (by omega)) (.inl rfl)

theorem sameProcC_p (a b : LProc) (ha : FitC a) (hb : FitC b) : Pure T 55 [.agg (Enc.c a), .agg (Enc.c b)] (.bool (eqv (normP a) (normP b))) true := by
  refine ⟨c55, rfl, rfl, ?_⟩
  obtain ⟨a1, a2, a3, a4, a5, a6⟩ := ha
  obtain ⟨b1, b2, b3, b4, b5, b6⟩ := hb
  have e1 := fun {o h d r κ s Q} => eqVar_r (o := o) (h := h) (d := d) (r := r) (κ := κ) (s := s) (Q := Q) a.params b.params a1
  have e2 := fun {o h d r κ s Q} => eqStr_r (o := o) (h := h) (d := d) (r := r) (κ := κ) (s := s) (Q := Q) a.sig.result b.sig.result a4
  have e3 := fun {o h d r κ s Q} => efStrs_r (o := o) (h := h) (d := d) (r := r) (κ := κ) (s := s) (Q := Q) a.sig.params b.sig.params a2 a3
  have e4 := fun {o h d r κ s Q} => efBlock_r (o := o) (h := h) (d := d) (r := r) (κ := κ) (s := s) (Q := Q) a.blocks b.blocks a5 a6 b6
  simp [c55, e1, e2, e3, e4, beq_eqv]
  (repeat' ((first | refine gdS_split (fun hc => ?_) (fun hc => ?_) | refine condS_split (fun hc => ?_) (fun hc => ?_)) <;> (try simp at hc) <;> (try simp [e1, e2, e3, e4, beq_eqv])))
  all_goals clear e1 e2 e3 e4 a6 b6 a3 b3
  all_goals obtain ⟨p1, p2, p3, ⟨q1, q2, q3, q4⟩, p5, p6⟩ := a
  all_goals obtain ⟨u1, u2, u3, ⟨w1, w2, w3, w4⟩, u5, u6⟩ := b
  all_goals first
    | (simp_all [eqv, normP]; done)
    | exact eqv_congr (by simp_all [eqv, normP])

end
end Go.Proofs.YtkaabknkabdfpaaGreatDoor

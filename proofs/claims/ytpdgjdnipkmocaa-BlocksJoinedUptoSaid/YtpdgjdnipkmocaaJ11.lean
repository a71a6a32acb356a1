/- The law BlocksJoin, evaluated. -/
import Derived.Test.YtpdgjdnipkmocaaJ10
set_option linter.unusedVariables false
set_option linter.unusedSimpArgs false
namespace Go.Proofs.Ytpdgjdnipkmocaa
open Go.Ev

theorem sum_le {α : Type} {f : α → Nat} {m : Nat} : ∀ {l : List α}, (∀ x ∈ l, f x ≤ m) → (l.map f).sum ≤ l.length * m
  | [], _ => by simp
  | x :: l, h => by
    have h1 := h x List.mem_cons_self
    have h2 := sum_le (f := f) fun y hy => h y (List.mem_cons_of_mem _ hy)
    rw [List.map_cons, List.sum_cons, List.length_cons, Nat.succ_mul]
    omega

theorem few_wide {p : LProc} (h : fewP p = true) : wide p ≤ 1000 := by
  have hN := order_nums p
  have hol := hN.length
  simp only [fewP, Bool.and_eq_true, decide_eq_true_eq, List.all_eq_true] at h
  have hb : ∀ c ∈ order p, (blockAt p c).code.length ≤ 20 := fun c hc => by
    have := h.2 _ (blockAt_mem (p := p) (a := c) (by have := hN.2 c hc; omega))
    simp only [fewB, Bool.and_eq_true, decide_eq_true_eq, List.all_eq_true] at this
    omega
  have := sum_le (f := fun c => (blockAt p c).code.length) hb
  unfold wide
  have h1 := h.1.1.1
  have : (order p).length * 20 ≤ 20 * 20 := Nat.mul_le_mul_right _ (by omega)
  omega

section
variable {h : AH} {d : Option Nat} {r : List COper} {κ : List KF} {s : Fr} {Q : Fr → AH → Prop}
theorem Join_not (p : LProc) (hp : FitP p) (hl : laid p = false) : pureK T 22 (some [.agg [PV.str p.name, sl p.params, PV.int .i64 p.result, sl p.sig.params, PV.str p.sig.base, sl p.sig.result, PV.str p.sig.rest, sl p.blocks, PV.bool p.extern]]) false h d r κ s Q = WR T r κ (Fr.put s d (.tup [.agg (Enc.c zeroP), .int .i64 0, .int .i64 22])) h Q := by
  refine pureK_eq (?_ : Pure T _ _ _ false) (.inr rfl)
  refine ⟨c22, rfl, rfl, ?_⟩
  simp [c22, laid_r p hp, hl, zeroP]
  exact ⟨rfl, rfl, rfl, rfl⟩
theorem JoinR_not (p : LProc) (hp : FitP p) (hl : laid p = false) : pureK T 23 (some [.agg [PV.str p.name, sl p.params, PV.int .i64 p.result, sl p.sig.params, PV.str p.sig.base, sl p.sig.result, PV.str p.sig.rest, sl p.blocks, PV.bool p.extern]]) false h d r κ s Q = WR T r κ (Fr.put s d (.tup [.agg (Enc.c zeroP), .int .i64 0, .bool false])) h Q := by
  refine pureK_eq (?_ : Pure T _ _ _ false) (.inr rfl)
  refine ⟨c23, rfl, rfl, ?_⟩
  simp [c23, laidR_r p hp, hl, zeroP]
  exact ⟨rfl, rfl, rfl, rfl⟩
end
theorem JoinR_r (p : LProc) (hj : JFit p) {K : Nat} (hst : Stops p K) {h : AH} {d : Option Nat} {r : List COper} {κ : List KF} {s : Fr} {Q : Fr → AH → Prop} : pureK T 23 (some [.agg [PV.str p.name, sl p.params, PV.int .i64 p.result, sl p.sig.params, PV.str p.sig.base, sl p.sig.result, PV.str p.sig.rest, sl p.blocks, PV.bool p.extern]]) false h d r κ s Q = WR T r κ (Fr.put s d (.tup [.agg (Enc.c (tidyP (joinK K p))), .int .i64 (K : Nat), .bool true])) h Q := pureK_eq (JoinR_p p hj hst) (.inr rfl)

theorem BlocksJoin_p (p : LProc) (hs : Smc.sm 1048576 p) : Pure T 5 [.agg (Enc.c p)] (.bool true) true := by
  refine ⟨c5, rfl, rfl, ?_⟩
  simp [c5, few_r p]
  cases hf : fewP p
  · simp [awake_r]
  have hp := fit_of hf hs
  cases hl : laid p
  · simp [Join_not p hp.1 hl, JoinR_not p hp.1 hl, zeroP, awake_r]
  have hj : JFit p := ⟨hp, hl, few_wide hf⟩
  obtain ⟨K, hst⟩ := stops_ex hj
  have hct := fitC_of (tidyP_fit (joinK_fit hj K).fit)
  have e1 := fun {h d r κ s Q} => Join_r (h := h) (d := d) (r := r) (κ := κ) (s := s) (Q := Q) p hj hst
  have e2 := fun {h d r κ s Q} => JoinR_r (h := h) (d := d) (r := r) (κ := κ) (s := s) (Q := Q) p hj hst
  generalize tidyP (joinK K p) = q at *
  simp [e1, e2, sameProc_r q q hct hct, eqv_refl, awake_r]

theorem law_blocksJoin (x : shProc.den) (o : shProc.ok x ∧ shProc.small 1048576 x) : ∃ g, CE T 5 [.agg (shProc.pv x)] AH.zero (.bool true) g := by
  rw [mkProc_c]
  exact ⟨AH.zero, (BlocksJoin_p (mkProc x) (mkProc_sm x o.2)).ce (by simp) (.inl rfl)⟩
end Go.Proofs.Ytpdgjdnipkmocaa

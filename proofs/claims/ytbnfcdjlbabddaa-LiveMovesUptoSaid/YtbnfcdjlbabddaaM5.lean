/- The program's 'Normal'. -/
import Derived.Test.YtbnfcdjlbabddaaM4
set_option linter.unusedVariables false
set_option linter.unusedSimpArgs false
namespace Go.Proofs.Ytbnfcdjlbabddaa
open Go.Ev

/-- A cell, and what it is in the end: never changed, or an own list of such. -/
def CellOk (h : AH) (fr : Nat → Prop) (v u : PV) : Prop := (v = u ∧ imm 8 v = true) ∨ (v = .emp ∧ u = .sl 0 []) ∨ ∃ i n cs, v = .rf 2 i 0 n ∧ h.row i = some cs ∧ cs.length = n * 2 ∧ u = .sl n cs ∧ cs.all (imm 8) = true ∧ i < h.nx ∧ fr i
theorem CellOk.snap {h : AH} {fr : Nat → Prop} {v u : PV} (c : CellOk h fr v u) : snap h (8 + 1) v = some u := by
  rcases c with ⟨rfl, hi⟩ | ⟨rfl, rfl⟩ | ⟨i, n, cs, rfl, hr, hl, rfl, hi, _⟩
  · exact snap_imm _ _ _ (imm_mono 8 _ _ (by decide) hi)
  · rfl
  · show (match h.row i with | some cs => if 0 + n * 2 ≤ cs.length then (allO (Go.Ev.snap h 8) ((cs.drop 0).take (n * 2))).map (PV.sl n) else .none | .none => .none) = _
    rw [hr]
    simp only
    rw [if_pos (by omega), List.drop_zero, List.take_of_length_le (by omega), allO_imm (fun v hv => snap_imm _ _ v hv) _ hi]
    rfl
/-- Cells, one by one. -/
def CellsOk (h : AH) (fr : Nat → Prop) (cs us : List PV) : Prop := cs.length = us.length ∧ ∀ k (hk : k < cs.length) (hk' : k < us.length), CellOk h fr cs[k] us[k]
theorem CellsOk.snap {h : AH} {fr : Nat → Prop} {cs us : List PV} (c : CellsOk h fr cs us) : allO (Go.Ev.snap h (8 + 1)) cs = some us := by
  obtain ⟨hl, hc⟩ := c
  induction cs generalizing us with
  | nil =>
    cases us with
    | nil => rfl
    | cons u us => cases hl
  | cons v cs ih =>
    cases us with
    | nil => cases hl
    | cons u us =>
      have h0 := hc 0 (by simp) (by simp)
      simp only [List.getElem_cons_zero] at h0
      rw [allO_cons, h0.snap, ih (by simpa using hl) fun k hk hk' => hc (k + 1) (by simpa using hk) (by simpa using hk')]
      rfl
theorem CellOk.mono {h h' : AH} {fr fr' : Nat → Prop} {v u : PV} (c : CellOk h fr v u) (hx : h.nx ≤ h'.nx) (hf : ∀ i, i < h.nx → fr i → fr' i ∧ h'.row i = h.row i) : CellOk h' fr' v u := by
  rcases c with q | q | ⟨i, n, cs, e, hr, hl, e', hi, hn, hfr⟩
  · exact .inl q
  · exact .inr (.inl q)
  · obtain ⟨h1, h2⟩ := hf i hn hfr
    exact .inr (.inr ⟨i, n, cs, e, h2.trans hr, hl, e', hi, by omega, h1⟩)
theorem CellsOk.mono {h h' : AH} {fr fr' : Nat → Prop} {cs us : List PV} (c : CellsOk h fr cs us) (hx : h.nx ≤ h'.nx) (hf : ∀ i, i < h.nx → fr i → fr' i ∧ h'.row i = h.row i) : CellsOk h' fr' cs us := ⟨c.1, fun k hk hk' => (c.2 k hk hk').mono hx hf⟩
theorem CellsOk.app {h : AH} {fr : Nat → Prop} {cs us ds vs : List PV} (c : CellsOk h fr cs us) (d : CellsOk h fr ds vs) : CellsOk h fr (cs ++ ds) (us ++ vs) := by
  refine ⟨by rw [List.length_append, List.length_append, c.1, d.1], fun k hk hk' => ?_⟩
  by_cases q : k < cs.length
  · rw [List.getElem_append_left q, List.getElem_append_left (by rw [← c.1]; exact q)]
    exact c.2 k q _
  · rw [List.getElem_append_right (by omega), List.getElem_append_right (by rw [← c.1]; omega)]
    have h1 : k - cs.length < ds.length := by rw [List.length_append] at hk; omega
    have := d.2 (k - cs.length) h1 (by rw [← d.1]; exact h1)
    simpa only [c.1] using this

/-- The normal form in the making: block 0 is for the result, block tv holds it. -/
structure NM (f : LFun) (tv : Nat) (vv cv : PV) (vars : List LVar) (CS : List PV) (us : List PV) (n : Nat) (h : AH) : Prop where
  lo : h.lo = 0
  tv0 : 0 < tv
  tvx : tv < h.nx
  r0 : ∃ zs, h.row 0 = some zs ∧ zs.length = 7
  rt : h.row tv = some [.str f.name, .int .i64 f.params, .int .i64 f.result, vv, cv, .int .i64 0, .bool f.extern]
  av : Acc h vv 2 (vars.map Enc.c).flatten vars.length
  ac : Acc h cv 10 CS n
  vt : ¬ nm vv tv
  v0 : ¬ nm vv 0
  ct : ¬ nm cv tv
  c0 : ¬ nm cv 0
  ap : Apart vv cv
  ok : CellsOk h (fun i => i ≠ 0 ∧ i ≠ tv ∧ ¬ nm vv i ∧ ¬ nm cv i) CS us
section
variable {f : LFun} {tv n q : Nat} {vv cv w : PV} {vars : List LVar} {CS us ds vs : List PV} {h h' : AH}
theorem mv_new {v w : PV} {h h' : AH} (m : Mv h v h' w) {i : Nat} (hi : nm w i) : nm v i ∨ h.nx ≤ i := by
  obtain ⟨z, o, n, rfl⟩ := hi
  rcases m.2 with q | q | ⟨z', i', o', n', q, hi'⟩
  · exact .inl ⟨z, o, n, q.symm⟩
  · cases q
  · cases q; exact .inr hi'
theorem NM.keep (m : NM f tv vv cv vars CS us n h) (hl : h'.lo = h.lo) (hx : h.nx ≤ h'.nx) (hk : ∀ i, i < h.nx → h'.blk i = h.blk i) : NM f tv vv cv vars CS us n h' := by
  have hr : ∀ i, i < h.nx → h'.row i = h.row i := fun i hi => by simp only [AH.row, hk i hi]
  have htx := m.tvx
  have ht0 := m.tv0
  exact ⟨hl.trans m.lo, ht0, by omega, by rw [hr 0 (by omega)]; exact m.r0, by rw [hr tv htx]; exact m.rt, m.av.of_nm hx hl fun i _ hi => hk i hi, m.ac.of_nm hx hl fun i _ hi => hk i hi, m.vt, m.v0, m.ct, m.c0, m.ap, m.ok.mono hx fun i hi hf => ⟨hf, hr i hi⟩⟩
theorem NM.var {v : LVar} (m : NM f tv vv cv vars [] [] n h) (a : Acc h' w 2 ((vars ++ [v]).map Enc.c).flatten (vars ++ [v]).length) (mv : Mv h vv h' w) :
    NM f tv w cv (vars ++ [v]) [] [] n (h'.set tv (.cells [.str f.name, .int .i64 f.params, .int .i64 f.result, w, cv, .int .i64 0, .bool f.extern])) := by
  have g := mv.grow
  have htx := m.tvx
  have ht0 := m.tv0
  have wt : ¬ nm w tv := fun q => by
    rcases mv_new mv q with q | q
    · exact m.vt q
    · omega
  have w0 : ¬ nm w 0 := fun q => by
    rcases mv_new mv q with q | q
    · exact m.v0 q
    · omega
  have hct : ∀ z o n, cv ≠ .rf z tv o n := nm_ne m.ct
  refine ⟨by show h'.lo = 0; rw [g.1]; exact m.lo, ht0, by show tv < h'.nx; omega, ?_, by rw [row_set, if_pos rfl], a.set _ (nm_ne wt), (m.ac.mv mv m.ap.symm).set _ hct, wt, w0, m.ct, m.c0, (m.ap.symm.mv mv m.ac).symm, ⟨rfl, fun k hk => by cases hk⟩⟩
  rw [row_set, if_neg (by omega), mv.row (by omega) (nm_ne m.v0)]
  exact m.r0
theorem NM.code (m : NM f tv vv cv vars CS us n h) (d : CellsOk h (fun i => i ≠ 0 ∧ i ≠ tv ∧ ¬ nm vv i ∧ ¬ nm cv i) ds vs) (a : Acc h' w 10 (CS ++ ds) (n + 1)) (mv : Mv h cv h' w) :
    NM f tv vv w vars (CS ++ ds) (us ++ vs) (n + 1) (h'.set tv (.cells [.str f.name, .int .i64 f.params, .int .i64 f.result, vv, w, .int .i64 0, .bool f.extern])) := by
  have g := mv.grow
  have htx := m.tvx
  have ht0 := m.tv0
  have wt : ¬ nm w tv := fun q => by
    rcases mv_new mv q with q | q
    · exact m.ct q
    · omega
  have w0 : ¬ nm w 0 := fun q => by
    rcases mv_new mv q with q | q
    · exact m.c0 q
    · omega
  refine ⟨by show h'.lo = 0; rw [g.1]; exact m.lo, ht0, by show tv < h'.nx; omega, ?_, by rw [row_set, if_pos rfl], (m.av.mv mv m.ap).set _ (nm_ne m.vt), a.set _ (nm_ne wt), m.vt, m.v0, wt, w0, m.ap.mv mv m.av, ?_⟩
  · rw [row_set, if_neg (by omega), mv.row (by omega) (nm_ne m.c0)]
    exact m.r0
  · refine (m.ok.app d).mono (by show h.nx ≤ h'.nx; omega) fun i hi ⟨f1, f2, f3, f4⟩ => ⟨⟨f1, f2, f3, fun q => ?_⟩, ?_⟩
    · rcases mv_new mv q with q | q
      · exact f4 q
      · omega
    · rw [row_set, if_neg f2, mv.row hi (nm_ne f4)]
/-- What it is in the end. -/
theorem NM.fin {code : List LNode} (m : NM f tv vv cv vars CS us n h) (hu : us = (code.map Enc.c).flatten) (hn : n = code.length) (B : Blk) : Go.Ev.snap (h.set 0 B) 10 vv = some (sl vars) ∧ Go.Ev.snap (h.set 0 B) 10 cv = some (sl code) := by
  refine ⟨(m.av.set B (nm_ne m.v0)).snap (m := 9) rfl (by decide), ?_⟩
  have h9 : allO (Go.Ev.snap (h.set 0 B) 9) CS = some us := (m.ok.mono (h' := h.set 0 B) (Nat.le_refl _) fun i hi hf => ⟨hf, by simp only [AH.row, blk_set, if_neg hf.1]⟩).snap
  rw [(m.ac.set B (nm_ne m.c0)).snap_cells h9, hu, hn]
  rfl
end
theorem CellsOk.same {h : AH} {fr : Nat → Prop} {cs : List PV} (hi : cs.all (imm 8) = true) : CellsOk h fr cs cs := ⟨rfl, fun k hk _ => .inl ⟨rfl, List.all_eq_true.1 hi _ (List.getElem_mem hk)⟩⟩
theorem node_imm (x : LNode) : (Enc.c x).all (imm 8) = true := List.all_eq_true.2 fun v hv => imm_mono (Enc.dep LNode) _ _ (by decide) (Enc.im x v hv)
theorem pre_edg {f : LFun} {sc : List Int} {t : Tr} (h : Ok f sc t) : ∀ a ∈ t.pre, ∀ e ∈ edg (nodeAt f a), (0 ≤ e.1 ∧ e.1 < (f.code.length : Int)) ∧ ∀ v ∈ e.2, 0 ≤ v ∧ v < (f.vars.length : Int) := by
  induction h with
  | @node sc a ts ha hu hl hr hs hb ih =>
    intro b hb' e he
    rw [Tr.pre] at hb'
    rcases List.mem_cons.1 hb' with rfl | q
    · obtain ⟨k, hk, rfl⟩ := List.getElem_of_mem he
      have hk' : k < ts.length := by omega
      refine ⟨?_, fun v hv => by have := hb _ he v hv; exact ⟨this.1, this.2.2⟩⟩
      rw [← hr k hk' hk]
      have hk2 := hs k hk' hk
      generalize ts[k] = u at hk2 ⊢
      cases hk2 with
      | node ha => exact ha
    · rw [pres_eq] at q
      obtain ⟨t, ht, q⟩ := List.mem_flatMap.1 q
      obtain ⟨k, hk, rfl⟩ := List.getElem_of_mem ht
      exact ih k hk (by omega) b q e he
theorem pre_in' {f : LFun} {sc : List Int} {t : Tr} (h : Ok f sc t) : ∀ a ∈ t.pre, 0 ≤ a ∧ a < (f.code.length : Int) := by
  induction h with
  | @node sc a ts ha hu hl hr hs hb ih =>
    intro b hb'
    rw [Tr.pre] at hb'
    rcases List.mem_cons.1 hb' with rfl | q
    · exact ha
    · rw [pres_eq] at q
      obtain ⟨t, ht, q⟩ := List.mem_flatMap.1 q
      obtain ⟨k, hk, rfl⟩ := List.getElem_of_mem ht
      exact ih k hk (by omega) b q
theorem binds_one {n : LNode} (h9 : n.op ≠ 9) : binds n = [] ∨ binds n = [n.var] := by
  unfold binds
  split
  · exact .inr rfl
  · simp [h9]
theorem kids_one {n : LNode} (h9 : n.op ≠ 9) : kids n = [] ∨ kids n = [n.next] := by
  unfold kids
  split
  · exact .inr rfl
  · simp [h9]
theorem flat_imm {α : Type} [Enc α] (l : List α) (hd : Enc.dep α ≤ 8) : ((l.map Enc.c).flatten).all (imm 8) = true := List.all_eq_true.2 fun v hv => by
  obtain ⟨cs, hcs, hv⟩ := List.mem_flatten.1 hv
  obtain ⟨x, _, rfl⟩ := List.mem_map.1 hcs
  exact imm_mono (Enc.dep α) _ _ hd (Enc.im x v hv)
theorem CellOk.own {h : AH} {fr : Nat → Prop} {bv : PV} {B : List LBranch} (a : Acc h bv 2 (B.map Enc.c).flatten B.length) (hfr : ∀ i, nm bv i → fr i) : CellOk h fr bv (sl B) := by
  obtain ⟨hl, ⟨rfl, hn⟩ | ⟨i, rfl, hr, hi, _⟩⟩ := a
  · have : B = [] := List.length_eq_zero_iff.1 hn
    subst this
    exact .inr (.inl ⟨rfl, rfl⟩)
  · exact .inr (.inr ⟨i, B.length, _, rfl, hr, hl, rfl, flat_imm B (by decide), hi, hfr i ⟨_, _, _, rfl⟩⟩)
end Go.Proofs.Ytbnfcdjlbabddaa

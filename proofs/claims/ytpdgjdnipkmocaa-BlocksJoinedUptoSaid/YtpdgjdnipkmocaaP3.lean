/- Plain law: a procedure whose blocks have other numbers. -/
import Derived.Test.YtpdgjdnipkmocaaP2
set_option linter.unusedVariables false
set_option linter.unusedSimpArgs false
namespace Go.Proofs.Ytpdgjdnipkmocaa
open Go.Ev

/-- A number's new number. -/
def ren (t : List Int) (a : Int) : Int := t[a.toNat]?.getD 0
/-- A block whose jumps are renumbered. -/
def mvI (t : List Int) (x : LInstr) : LInstr := { x with jump := x.jump.map (ren t) }
def mvC (t : List Int) (c : List LInstr) : List LInstr := match c.getLast? with
  | none => []
  | some x => c.dropLast ++ [mvI t x]
def mvB (t : List Int) (b : LBlock) : LBlock := { b with code := mvC t b.code }

/-- The numbers in another order, 0 in its place. -/
structure Ren (N : Nat) (t : List Int) : Prop where
  len : t.length = N
  nodup : t.Nodup
  bd : ∀ x ∈ t, 0 ≤ x ∧ x < (N : Int)
  zero : 0 < N → ren t 0 = 0

theorem ren_at {t : List Int} {a : Int} (h : a.toNat < t.length) : ren t a = t[a.toNat] := by simp [ren, h]
theorem Ren.inj {N : Nat} {t : List Int} (r : Ren N t) {x y : Int} (hx : 0 ≤ x ∧ x < (N : Int)) (hy : 0 ≤ y ∧ y < (N : Int)) (h : ren t x = ren t y) : x = y := by
  have h1 : x.toNat < t.length := by rw [r.len]; omega
  have h2 : y.toNat < t.length := by rw [r.len]; omega
  rw [ren_at h1, ren_at h2] at h
  have := (List.getElem_inj r.nodup).1 h
  omega
theorem Ren.mem {N : Nat} {t : List Int} (r : Ren N t) {x : Int} (hx : 0 ≤ x ∧ x < (N : Int)) : 0 ≤ ren t x ∧ ren t x < (N : Int) := by
  have h1 : x.toNat < t.length := by rw [r.len]; omega
  rw [ren_at h1]
  exact r.bd _ (List.getElem_mem h1)

/-- The procedure q has p's blocks under other numbers. -/
structure Moved (p q : LProc) (t : List Int) : Prop where
  same : q = { p with blocks := q.blocks }
  len : q.blocks.length = p.blocks.length
  rn : Ren p.blocks.length t
  at_ : ∀ a : Int, 0 ≤ a → a < (p.blocks.length : Int) → blockAt q (ren t a) = mvB t (blockAt p a)

theorem mvI_op (t : List Int) (x : LInstr) : (mvI t x).op = x.op := rfl
theorem mvC_last {t : List Int} {c : List LInstr} {x : LInstr} (hx : c.getLast? = some x) : (mvC t c).getLast? = some (mvI t x) := by
  simp only [mvC, hx]; simp
theorem next_mvB {t : List Int} {b : LBlock} {x : LInstr} (hx : b.code.getLast? = some x) : next (mvB t b) = (next b).map (ren t) := by
  simp only [next, mvB, mvC_last hx, hx]
  by_cases h : x.op = 8 ∨ x.op = 9 ∨ x.op = 11
  · simp [mvI, h]
  · simp [mvI, h]

theorem Ren.surj {N : Nat} {t : List Int} (r : Ren N t) {y : Int} (hy : 0 ≤ y ∧ y < (N : Int)) : ∃ a, (0 ≤ a ∧ a < (N : Int)) ∧ ren t a = y := by
  have hsub : (nums N).length ≤ t.length := by rw [nums_len, r.len]; exact Nat.le_refl _
  have hmem : y ∈ t := by
    apply Classical.byContradiction
    intro hny
    have h1 : (y :: t).Nodup := List.nodup_cons.2 ⟨hny, r.nodup⟩
    have h2 : Nums N (y :: t) := ⟨h1, fun x hx => by
      rcases List.mem_cons.1 hx with rfl | hx
      · exact hy
      · exact r.bd x hx⟩
    have := h2.length
    rw [List.length_cons, r.len] at this
    omega
  obtain ⟨i, hi, e⟩ := List.getElem_of_mem hmem
  refine ⟨(i : Int), ⟨by omega, by rw [r.len] at hi; omega⟩, ?_⟩
  rw [ren_at (by simpa using hi)]
  simpa using e

theorem mv_laidB {n : Nat} {t : List Int} {b : LBlock} (h : laidB n b) (r : Ren n t) : laidB n (mvB t b) := by
  obtain ⟨x, hx, e1, e2, e3⟩ := h
  have hl := laidB_code ⟨x, hx, e1, e2, e3⟩
  refine ⟨mvI t x, mvC_last hx, ?_, ?_, ?_⟩
  · have hne : b.code ≠ [] := fun q => by rw [q] at hl; simp at hl
    have hlen : (mvB t b).code.length = b.code.length := by simp only [mvB, mvC, hx]; simp; omega
    intro k hk
    have hk' : k < b.code.length := by rw [← hlen]; exact hk
    rw [hlen]
    rw [← e1 k hk']
    congr 1
    have e : (mvB t b).code[k]? = (b.code.dropLast ++ [mvI t x])[k]? := by simp only [mvB, mvC, hx]
    have hg : (mvB t b).code[k]? = some (mvB t b).code[k] := List.getElem?_eq_getElem hk
    rw [hg] at e
    by_cases hlast : k < b.code.dropLast.length
    · rw [List.getElem?_append_left hlast, List.getElem?_eq_getElem hlast, List.getElem_dropLast] at e
      rw [Option.some.inj e]
    · have hk2 : k = b.code.dropLast.length := by rw [List.length_dropLast] at hlast ⊢; omega
      have h6 : b.code[k] = x := by
        rw [getLast_eq hl] at hx
        have := Option.some.inj hx
        rw [List.length_dropLast] at hk2
        subst hk2
        exact this
      rw [List.getElem?_append_right (by omega), show k - b.code.dropLast.length = 0 by omega] at e
      simp only [List.getElem?_cons_zero] at e
      rw [Option.some.inj e, h6]; rfl
  · simp only [lastOk, mvI_op] at e2 ⊢
    simp only [mvI, List.length_map]
    exact e2
  · intro j hj
    simp only [mvI, List.mem_map] at hj
    obtain ⟨y, hy, rfl⟩ := hj
    exact r.mem (e3 y hy)

variable {p q : LProc} {t : List Int}
theorem Moved.suc (m : Moved p q t) (hl : laidP p) {a : Int} (ha : 0 ≤ a ∧ a < (p.blocks.length : Int)) : succ q (ren t a) = (succ p a).map (ren t) := by
  obtain ⟨x, hx, _⟩ := laid_at hl (a := a) (by omega)
  have hb := m.rn.mem ha
  rw [succ_at (p := q) (by rw [m.len]; omega), m.at_ a ha.1 ha.2, next_mvB hx, succ_at (by omega)]

theorem Moved.ext (m : Moved p q t) : q.extern = p.extern := by rw [m.same]

theorem Moved.lay (m : Moved p q t) (hl : laidP p) : laidP q := by
  refine ⟨?_, fun b hb => ?_⟩
  · rw [m.ext, hl.1, ← List.length_eq_zero_iff, ← List.length_eq_zero_iff, m.len]
  · obtain ⟨i, hi, rfl⟩ := List.getElem_of_mem hb
    rw [m.len] at hi ⊢
    obtain ⟨a, ha, e⟩ := m.rn.surj (y := (i : Int)) ⟨by omega, by omega⟩
    have hba := m.at_ a ha.1 ha.2
    rw [e] at hba
    have hi' : i < q.blocks.length := by rw [m.len]; exact hi
    have : blockAt q (i : Int) = q.blocks[i] := by simp [blockAt, hi']
    rw [this] at hba
    rw [hba]
    exact mv_laidB (laid_at hl (by omega)) m.rn

theorem Moved.ord (m : Moved p q t) (hl : laid p = true) : order q = (order p).map (ren t) := by
  have hlq := laid_is (m.lay (laid_true hl))
  cases he : p.extern
  · have heq : q.extern = false := by rw [m.ext]; exact he
    have hpos := laid_pos hl he
    rw [order_is hlq heq, order_is hl he, m.len]
    have := (visit_map (g := Go.Proofs.Ytpdgjdnipkmocaa.succ p) (g' := Go.Proofs.Ytpdgjdnipkmocaa.succ q) (φ := ren t) (D := fun x => 0 ≤ x ∧ x < (p.blocks.length : Int)) (fun a ha => laid_In (laid_true hl) a ha.1 ha.2) (fun x y hx hy e => m.rn.inj hx hy e) (fun a ha => m.suc (laid_true hl) ha) (p.blocks.length + 1) [] 0 (fun x hx => by cases hx) ⟨by omega, by omega⟩).1
    rw [m.rn.zero hpos, List.map_nil] at this
    exact this
  · have heq : q.extern = true := by rw [m.ext]; exact he
    rw [order_ext heq, order_ext he]; rfl

theorem placeF_map {l : List Int} {φ : Int → Int} {j : Int} (inj : ∀ x ∈ l, φ j = φ x → j = x) : idxOf (l.map φ) (φ j) = idxOf l j := by
  induction l with
  | nil => rfl
  | cons x l ih =>
    have ih := ih fun y hy => inj y (List.mem_cons_of_mem _ hy)
    have h1 : decide (φ j = φ x) = decide (j = x) := by
      rw [Bool.eq_iff_iff]
      simp only [decide_eq_true_eq]
      exact ⟨inj x List.mem_cons_self, fun e => by rw [e]⟩
    simp only [idxOf, List.map_cons, placeF, h1] at ih ⊢
    rw [ih]

/-- Tidying forgets the numbers. -/
theorem Moved.tid (m : Moved p q t) (hl : Go.Proofs.Ytpdgjdnipkmocaa.laid p = true) : tidyP q = tidyP p := by
  have ho := m.ord hl
  have hN := order_nums p
  have key : ((Go.Proofs.Ytpdgjdnipkmocaa.order q).map fun a => tidyB (Go.Proofs.Ytpdgjdnipkmocaa.order q) (blockAt q a)) = (Go.Proofs.Ytpdgjdnipkmocaa.order p).map fun a => tidyB (Go.Proofs.Ytpdgjdnipkmocaa.order p) (blockAt p a) := by
    rw [ho, List.map_map]
    apply List.map_congr_left
    intro a ha
    have hb := hN.2 a ha
    simp only [Function.comp_apply]
    rw [m.at_ a hb.1 hb.2]
    obtain ⟨x, hx, _, e2, e3⟩ := laid_at (laid_true hl) (a := a) (by omega)
    have e : tidyC ((Go.Proofs.Ytpdgjdnipkmocaa.order p).map (Go.Proofs.Ytpdgjdnipkmocaa.ren t)) (mvC t (blockAt p a).code) = tidyC (Go.Proofs.Ytpdgjdnipkmocaa.order p) (blockAt p a).code := by
      simp only [tidyC, mvC_last hx, hx]
      have hd : (mvC t (blockAt p a).code).dropLast = (blockAt p a).code.dropLast := by
        simp only [mvC, hx]; simp
      rw [hd]
      congr 2
      simp only [tidyI]
      have hJ : isJ (mvI t x) = isJ x := rfl
      rw [hJ]
      cases hj : isJ x
      · have hj' : ¬ (x.op = 8 ∨ x.op = 9 ∨ x.op = 11) := fun q => by rw [(isJ_iff x).2 q] at hj; cases hj
        simp only [lastOk] at e2
        rw [if_neg (by omega)] at e2
        have hnil : x.jump = [] := by
          rcases e2 with q | q
          · omega
          · exact List.length_eq_zero_iff.1 q
        simp only [Bool.false_eq_true, if_false, mvI, hnil, List.map_nil]
        cases x
        simp only at hnil
        rw [hnil]
      · simp only [if_true, mvI, List.map_map]
        congr 1
        apply List.map_congr_left
        intro j hjm
        have hjb := e3 j hjm
        exact placeF_map fun y hy e => m.rn.inj hjb (hN.2 y hy) e
    simp only [tidyB, mvB, e]
  simp only [tidyP]
  rw [key]
  have := m.same
  rw [this]
end Go.Proofs.Ytpdgjdnipkmocaa

/- Plain law: a tidied procedure. -/
import Derived.Test.YtpdgjdnipkmocaaP1
set_option linter.unusedVariables false
set_option linter.unusedSimpArgs false
namespace Go.Proofs.Ytpdgjdnipkmocaa
open Go.Ev

theorem order_is {p : LProc} (h : laid p = true) (he : p.extern = false) : order p = visit (succ p) (p.blocks.length + 1) [] 0 := by simp [order, h, he]
theorem order_ext {p : LProc} (he : p.extern = true) : order p = [] := by simp [order, he]

theorem order_closed {p : LProc} (h : laid p = true) (he : p.extern = false) : (0 : Int) ∈ order p ∧ ∀ x ∈ order p, ∀ y ∈ succ p x, y ∈ order p := by
  have hp := laid_pos h he
  have := visit_closed (laid_In (laid_true h)) (p.blocks.length + 1) [] 0 (Nums.nil _) (by omega) (by omega) (by simp)
  rw [order_is h he]
  refine ⟨this.1, fun x hx => ?_⟩
  rcases this.2 x hx with q | q
  · cases q
  · exact q

theorem order_head {p : LProc} (h : laid p = true) (he : p.extern = false) : [0] <+: order p := by
  have hp := laid_pos h he
  rw [order_is h he]
  simp only [visit]
  rw [if_neg (by simp)]
  exact (fold_props (laid_In (laid_true h)) _ _ _ (laid_In (laid_true h) 0 (by omega) (by omega)) ((Nums.nil _).snoc (by simp) ⟨by omega, by omega⟩)).2

theorem idx_zero {p : LProc} (h : laid p = true) (he : p.extern = false) : idxOf (order p) 0 = 0 := by
  obtain ⟨t, ht⟩ := order_head h he
  rw [← ht]
  simp [idxOf, placeF]

theorem succ_at {p : LProc} {a : Int} (ha : a.toNat < p.blocks.length) : succ p a = next (blockAt p a) := by
  simp [succ, blockAt, ha]

theorem tidyP_at {p : LProc} {k : Nat} (hk : k < (order p).length) : blockAt (tidyP p) (k : Int) = tidyB (order p) (blockAt p (order p)[k]) := by
  simp [blockAt, tidyP, hk]

theorem laidB_code {n : Nat} {b : LBlock} (h : laidB n b) : 0 < b.code.length := by
  obtain ⟨x, hx, _⟩ := h
  cases hc : b.code with
  | nil => rw [hc] at hx; cases hx
  | cons _ _ => simp

theorem tidyC_last {l : List Int} {b : LBlock} {x : LInstr} (hx : b.code.getLast? = some x) : (tidyC l b.code).getLast? = some (tidyI l x) := by
  simp only [tidyC, hx]
  simp

theorem tidyI_op (l : List Int) (x : LInstr) : (tidyI l x).op = x.op := by simp only [tidyI]; split <;> rfl

theorem next_tidyB {l : List Int} {b : LBlock} {x : LInstr} (hx : b.code.getLast? = some x) : next (tidyB l b) = (next b).map (idxOf l) := by
  simp only [next, tidyB, tidyC_last hx, hx, tidyI_op]
  split
  · rename_i h
    have : isJ x = true := (isJ_iff x).2 h
    simp [tidyI, this]
  · rfl

theorem laid_at {p : LProc} (h : laidP p) {a : Int} (ha : a.toNat < p.blocks.length) : laidB p.blocks.length (blockAt p a) := h.2 _ (blockAt_mem ha)

theorem laid_tidyB {p : LProc} (h : laid p = true) (he : p.extern = false) {a : Int} (ha : a ∈ order p) : laidB (order p).length (tidyB (order p) (blockAt p a)) := by
  have hN := (order_nums p).2 a ha
  have ha' : a.toNat < p.blocks.length := by omega
  obtain ⟨x, hx, e1, e2, e3⟩ := laid_at (laid_true h) ha'
  have hl := laidB_code ⟨x, hx, e1, e2, e3⟩
  have hxl : (blockAt p a).code[(blockAt p a).code.length - 1] = x := by
    rw [getLast_eq hl] at hx; exact Option.some.inj hx
  refine ⟨tidyI (order p) x, tidyC_last hx, ?_, ?_, ?_⟩
  · have e : tidyC (order p) (blockAt p a).code = (blockAt p a).code.set ((blockAt p a).code.length - 1) (tidyI (order p) x) := by rw [tidyC_eq hl, hxl]
    show endsOk (tidyC (order p) (blockAt p a).code)
    rw [e]
    intro k hk
    have hk' : k < (blockAt p a).code.length := by simpa using hk
    have := e1 k hk'
    rw [show decide (k = ((blockAt p a).code.set ((blockAt p a).code.length - 1) (tidyI (order p) x)).length - 1) = decide (k = (blockAt p a).code.length - 1) by rw [List.length_set], List.getElem_set]
    split
    · rename_i q
      subst q
      rw [tidyI_op, ← hxl]; exact this
    · exact this
  · simp only [lastOk] at e2 ⊢
    rw [tidyI_op]
    have hj : (tidyI (order p) x).jump.length = x.jump.length := by
      simp only [tidyI]; split
      · simp
      · rfl
    rw [hj]; exact e2
  · intro j hj
    simp only [tidyI] at hj
    cases hJ : isJ x
    · rw [hJ] at hj
      simp only [Bool.false_eq_true, if_false] at hj
      have hJ' : ¬ (x.op = 8 ∨ x.op = 9 ∨ x.op = 11) := fun q => by rw [(isJ_iff x).2 q] at hJ; cases hJ
      simp only [lastOk] at e2
      rw [if_neg (by omega)] at e2
      have : x.jump = [] := by
        rcases e2 with q | q
        · omega
        · exact List.length_eq_zero_iff.1 q
      rw [this] at hj; cases hj
    · rw [hJ] at hj
      simp only [if_true, List.mem_map] at hj
      obtain ⟨y, hy, rfl⟩ := hj
      have hs : y ∈ succ p a := by
        rw [succ_at ha']
        simp only [next, hx]
        rw [if_pos ((isJ_iff x).1 hJ)]
        exact hy
      obtain ⟨k, hk, q1, q2⟩ := placeF_mem ((order_closed h he).2 a ha y hs)
      rw [q1]
      omega

theorem tidy_laid {p : LProc} (h : laid p = true) : laid (tidyP p) = true := by
  refine laid_is ⟨?_, ?_⟩
  · cases he : p.extern
    · have := (order_closed h he).1
      have hne : order p ≠ [] := fun q => by rw [q] at this; cases this
      simp [tidyP, he, hne]
    · simp [tidyP, he, order_ext he]
  · intro b hb
    simp only [tidyP, List.mem_map] at hb
    obtain ⟨a, ha, rfl⟩ := hb
    have hl : (tidyP p).blocks.length = (order p).length := by simp [tidyP]
    rw [hl]
    cases he : p.extern
    · exact laid_tidyB h he ha
    · rw [order_ext he] at ha; cases ha

theorem tidy_len (p : LProc) : (tidyP p).blocks.length = (order p).length := by simp [tidyP]

theorem tidy_succ {p : LProc} (h : laid p = true) (he : p.extern = false) {a : Int} (ha : a ∈ order p) : succ (tidyP p) (idxOf (order p) a) = (succ p a).map (idxOf (order p)) := by
  have hN := (order_nums p).2 a ha
  have ha' : a.toNat < p.blocks.length := by omega
  obtain ⟨x, hx, _⟩ := laid_at (laid_true h) ha'
  obtain ⟨k, hk, e1, e2⟩ := placeF_mem ha
  rw [e1, succ_at (by rw [tidy_len]; simpa using hk), tidyP_at hk, e2, next_tidyB hx, succ_at ha']

theorem tidy_order {p : LProc} (h : laid p = true) : order (tidyP p) = nums (order p).length := by
  cases he : p.extern
  · have hpos := laid_pos h he
    have htl := tidy_laid h
    have he' : (tidyP p).extern = false := he
    have hn := order_nums p
    have hc := order_closed h he
    rw [order_is htl he']
    have hpos' := laid_pos htl he'
    have e1 := visit_fuel (laid_In (laid_true htl)) ((tidyP p).blocks.length + 1) (p.blocks.length + 1) [] 0 (Nums.nil _) (by omega) (by omega) (by simp) (by have := hn.length; rw [tidy_len]; simp; omega)
    rw [e1]
    have e2 := (visit_map (g := succ p) (g' := succ (tidyP p)) (φ := idxOf (order p)) (D := fun x => x ∈ order p) hc.2 (fun x y hx hy e => idxOf_inj hx hy e) (fun a ha => tidy_succ h he ha) (p.blocks.length + 1) [] 0 (fun x hx => by cases hx) hc.1).1
    rw [idx_zero h he, List.map_nil] at e2
    rw [e2, ← order_is h he]
    exact map_idxOf hn.1
  · have he' : (tidyP p).extern = true := he
    rw [order_ext he', order_ext he]; rfl

theorem tidyI_nums {n : Nat} {x : LInstr} (h : jumpsOk n x) : tidyI (nums n) x = x := by
  simp only [tidyI]
  split
  · have : x.jump.map (idxOf (nums n)) = x.jump := by
      conv => rhs; rw [← List.map_id x.jump]
      apply List.map_congr_left
      intro j hj
      have := h j hj
      exact idxOf_nums this.1 this.2
    rw [this]
  · rfl

theorem tidyB_nums {n : Nat} {b : LBlock} (h : laidB n b) : tidyB (nums n) b = b := by
  obtain ⟨x, hx, _, _, e3⟩ := h
  have hne : b.code ≠ [] := fun q => by rw [q] at hx; cases hx
  have : tidyC (nums n) b.code = b.code := by
    simp only [tidyC, hx, tidyI_nums e3]
    have h1 := List.dropLast_concat_getLast hne
    rw [List.getLast?_eq_some_getLast hne] at hx
    rw [Option.some.inj hx] at h1
    exact h1
  simp only [tidyB, this]

/-- Tidying again changes nothing. -/
theorem tidy_tidy {p : LProc} (h : laid p = true) : tidyP (tidyP p) = tidyP p := by
  have htl := laid_true (tidy_laid h)
  have ho := tidy_order h
  have hb : ((order (tidyP p)).map fun a => tidyB (order (tidyP p)) (blockAt (tidyP p) a)) = (tidyP p).blocks := by
    rw [ho]
    apply List.ext_getElem
    · simp [nums, tidyP]
    · intro i h1 h2
      have hi : i < (tidyP p).blocks.length := h2
      simp only [List.getElem_map, nums, List.getElem_range]
      have hba : blockAt (tidyP p) (i : Int) = (tidyP p).blocks[i] := by simp [blockAt, hi]
      rw [hba]
      have := htl.2 _ (List.getElem_mem hi)
      rw [tidy_len] at this
      exact tidyB_nums this
  show ({ tidyP p with blocks := (order (tidyP p)).map fun a => tidyB (order (tidyP p)) (blockAt (tidyP p) a) } : LProc) = tidyP p
  rw [hb]

theorem reached_order (p : LProc) : (reached p).length = (order p).length := by rw [← sort_order, sortI_length]
theorem tidy_reached {p : LProc} (h : laid p = true) : reached (tidyP p) = nums (order p).length := by
  unfold reached
  rw [tidy_order h, tidy_len]
  rw [List.filter_eq_self]
  intro x hx
  simpa using hx
theorem same_tidy {p : LProc} (h : laid p = true) : sameP (tidyP p) p = true := by
  simp [sameP, h, tidy_laid h, tidy_tidy h, eqv_refl]
end Go.Proofs.Ytpdgjdnipkmocaa

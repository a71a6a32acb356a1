/- Plain law: a joined procedure, tidied, has nothing more to join. -/
import Derived.Test.YtpdgjdnipkmocaaJ6
set_option linter.unusedVariables false
set_option linter.unusedSimpArgs false
namespace Go.Proofs.Ytpdgjdnipkmocaa
open Go.Ev

theorem count_map_on {φ : Int → Int} {b : Int} : ∀ {l : List Int}, (∀ x ∈ l, φ x = φ b → x = b) → (l.map φ).count (φ b) = l.count b
  | [], _ => rfl
  | x :: l, h => by
    have ih := count_map_on (φ := φ) (b := b) (l := l) fun y hy => h y (List.mem_cons_of_mem _ hy)
    rw [List.map_cons, List.count_cons, List.count_cons, ih]
    congr 1
    by_cases e : x = b
    · subst e; simp
    · have : φ x ≠ φ b := fun q => e (h x List.mem_cons_self q)
      simp [e, this]

theorem flatMap_map_map {φ : Int → Int} {f g : Int → List Int} : ∀ {l : List Int}, (∀ a ∈ l, g (φ a) = (f a).map φ) → (l.map φ).flatMap g = (l.flatMap f).map φ
  | [], _ => rfl
  | x :: l, h => by
    have ih := flatMap_map_map (φ := φ) (f := f) (g := g) (l := l) fun y hy => h y (List.mem_cons_of_mem _ hy)
    rw [List.map_cons, List.flatMap_cons, List.flatMap_cons, List.map_append, ih, h x List.mem_cons_self]

theorem tidyC_len (l : List Int) (c : List LInstr) : (tidyC l c).length = c.length := by
  cases c with
  | nil => rfl
  | cons x c => rw [tidyC_eq (by simp)]; simp

section
variable {p : LProc}
theorem tidy_ord {p : LProc} (h : laid p = true) : order (tidyP p) = (order p).map (idxOf (order p)) := by rw [tidy_order h, map_idxOf (order_nums p).1]

theorem tidy_cnt (h : laid p = true) (he : p.extern = false) {b : Int} (hb : b ∈ order p) : cntB (tidyP p) (idxOf (order p) b) = cntB p b := by
  have hc := order_closed h he
  unfold cntB
  rw [tidy_ord h, flatMap_map_map fun a ha => tidy_succ h he ha, count_map_on]
  intro x hx e
  obtain ⟨a, ha, hx⟩ := List.mem_flatMap.1 hx
  exact idxOf_inj (hc.2 a ha x hx) hb e

theorem tidy_at {a : Int} (ha : a ∈ order p) : blockAt (tidyP p) (idxOf (order p) a) = tidyB (order p) (blockAt p a) := by
  obtain ⟨k, hk, e1, e2⟩ := placeF_mem ha
  rw [e1, tidyP_at hk, e2]

theorem tidy_jointAt (h : laid p = true) (he : p.extern = false) {a : Int} (ha : a ∈ order p) : jointAt (tidyP p) (idxOf (order p) a) = jointAt p a := by
  have hc := order_closed h he
  have hN := (order_nums p).2 a ha
  obtain ⟨x, hx, _⟩ := laid_at (laid_true h) (a := a) (by omega)
  have hs := tidy_succ h he ha
  have hlast : (blockAt (tidyP p) (idxOf (order p) a)).code.getLast? = some (tidyI (order p) x) := by rw [tidy_at ha]; exact tidyC_last hx
  unfold jointAt
  rw [decide_eq_decide, hs, hlast, hx]
  simp only [List.length_map, Option.some.injEq, exists_eq_left', tidyI_op]
  by_cases h1 : (succ p a).length = 1
  · obtain ⟨y, hy⟩ := List.length_eq_one_iff.1 h1
    have j1 : jb p a = y := by simp [jb, hy]
    have j2 : jb (tidyP p) (idxOf (order p) a) = idxOf (order p) y := by simp [jb, hs, hy]
    have my : y ∈ order p := hc.2 a ha y (by rw [hy]; simp)
    have e1 : idxOf (order p) y = idxOf (order p) a ↔ y = a := ⟨fun e => idxOf_inj my ha e, fun e => by rw [e]⟩
    have e2 : idxOf (order p) y = 0 ↔ y = 0 := by
      have hz := idx_zero h he
      exact ⟨fun e => idxOf_inj my hc.1 (e.trans hz.symm), fun e => by rw [e]; exact hz⟩
    rw [j1, j2, tidy_cnt h he my, Ne, Ne, Ne, Ne, e1, e2]
  · simp [h1]

theorem tidy_joint (h : laid p = true) (hj : jointS p = none) : jointS (tidyP p) = none := by
  cases he : p.extern
  · unfold jointS at hj ⊢
    rw [List.find?_eq_none] at hj ⊢
    intro x hx
    rw [tidy_ord h] at hx
    obtain ⟨a, ha, rfl⟩ := List.mem_map.1 hx
    rw [tidy_jointAt h he ha]
    exact hj a ha
  · have he' : (tidyP p).extern = true := he
    simp [jointS, order_ext he']

theorem tidy_wide (h : laid p = true) : wide (tidyP p) = wide p := by
  unfold wide
  rw [tidy_ord h, List.map_map]
  congr 1
  apply List.map_congr_left
  intro a ha
  simp only [Function.comp_apply, tidy_at ha]
  exact tidyC_len _ _

/-- The number of instructions. -/
def szP (p : LProc) : Nat := (p.blocks.map fun b => b.code.length).sum
theorem szP_tidy : szP (tidyP p) = wide p := by
  unfold szP wide tidyP
  simp only [List.map_map]
  congr 1
  apply List.map_congr_left
  intro a ha
  exact tidyC_len _ _
theorem tidy_jfit (h : JFit p) : JFit (tidyP p) := ⟨tidyP_fit h.fit, tidy_laid h.la, by rw [tidy_wide h.la]; exact h.wd⟩
theorem joinK_wide (h : JFit p) : ∀ {k : Nat}, (∀ i, i < k → jointS (joinK i p) ≠ none) → wide (joinK k p) + k = wide p
  | 0, _ => rfl
  | k + 1, hk => by
    have ih := joinK_wide h (k := k) fun i hi => hk i (by omega)
    cases e : jointS (joinK k p) with
    | none => exact absurd e (hk k (by omega))
    | some a =>
      rw [joinK_succ e]
      have := mrg_wide (jn_of e)
      omega
theorem tidy_stops (h : JFit p) (hj : jointS p = none) : Stops (tidyP p) 0 := ⟨tidy_joint h.la hj, fun i hi => absurd hi (by omega)⟩
end
end Go.Proofs.Ytpdgjdnipkmocaa

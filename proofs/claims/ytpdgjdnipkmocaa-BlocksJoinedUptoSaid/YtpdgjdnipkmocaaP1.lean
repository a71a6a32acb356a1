/- Plain law: the order of the visits, renumbered. -/
import Derived.Test.YtpdgjdnipkmocaaH2
set_option linter.unusedVariables false
set_option linter.unusedSimpArgs false
namespace Go.Proofs.Ytpdgjdnipkmocaa
open Go.Ev

section
variable {N : Nat} {g : Int → List Int}

/-- Enough is enough. -/
theorem visit_fuel (hg : ∀ a, 0 ≤ a → a < (N : Int) → ∀ x ∈ g a, 0 ≤ x ∧ x < (N : Int)) :
    ∀ (n m : Nat) (l : List Int) (a : Int), Nums N l → 0 ≤ a → a < (N : Int) → N + 1 ≤ n + l.length → N + 1 ≤ m + l.length → visit g n l a = visit g m l a
  | 0, m, l, a, hl, _, _, hn, _ => by have := hl.length; omega
  | n + 1, 0, l, a, hl, _, _, _, hm => by have := hl.length; omega
  | n + 1, m + 1, l, a, hl, h0, h1, hn, hm => by
    simp only [visit]
    split
    · rfl
    · rename_i ha
      have key : ∀ (xs : List Int) (l' : List Int), (∀ x ∈ xs, 0 ≤ x ∧ x < (N : Int)) → Nums N l' → N + 1 ≤ n + l'.length → N + 1 ≤ m + l'.length → xs.foldl (visit g n) l' = xs.foldl (visit g m) l' := by
        intro xs
        induction xs with
        | nil => intros; rfl
        | cons x xs ih =>
          intro l' hx hl' h1 h2
          have e := visit_fuel hg n m l' x hl' (hx x List.mem_cons_self).1 (hx x List.mem_cons_self).2 h1 h2
          have q := visit_props hg m l' x hl' (hx x List.mem_cons_self).1 (hx x List.mem_cons_self).2
          have q2 := q.2.length_le
          simp only [List.foldl_cons, e]
          exact ih _ (fun y hy => hx y (List.mem_cons_of_mem _ hy)) q.1 (by omega) (by omega)
      exact key _ _ (hg a h0 h1) (hl.snoc ha ⟨h0, h1⟩) (by simp; omega) (by simp; omega)

/-- What is visited is closed. -/
theorem visit_closed (hg : ∀ a, 0 ≤ a → a < (N : Int) → ∀ x ∈ g a, 0 ≤ x ∧ x < (N : Int)) :
    ∀ (n : Nat) (l : List Int) (a : Int), Nums N l → 0 ≤ a → a < (N : Int) → N + 1 ≤ n + l.length →
      a ∈ visit g n l a ∧ ∀ x ∈ visit g n l a, x ∈ l ∨ ∀ y ∈ g x, y ∈ visit g n l a
  | 0, l, a, hl, _, _, hn => by have := hl.length; omega
  | n + 1, l, a, hl, h0, h1, hn => by
    simp only [visit]
    split
    · rename_i ha; exact ⟨ha, fun x hx => .inl hx⟩
    · rename_i ha
      have key : ∀ (xs : List Int) (l' : List Int), (∀ x ∈ xs, 0 ≤ x ∧ x < (N : Int)) → Nums N l' → N + 1 ≤ n + l'.length →
          (∀ x ∈ xs, x ∈ xs.foldl (visit g n) l') ∧ (∀ x ∈ xs.foldl (visit g n) l', x ∈ l' ∨ ∀ y ∈ g x, y ∈ xs.foldl (visit g n) l') := by
        intro xs
        induction xs with
        | nil => intro l' _ _ _; exact ⟨fun x hx => (by cases hx), fun x hx => .inl hx⟩
        | cons x xs ih =>
          intro l' hx hl' hn'
          have e := visit_closed hg n l' x hl' (hx x List.mem_cons_self).1 (hx x List.mem_cons_self).2 hn'
          have q := visit_props hg n l' x hl' (hx x List.mem_cons_self).1 (hx x List.mem_cons_self).2
          have q2 := q.2.length_le
          have r := ih (visit g n l' x) (fun y hy => hx y (List.mem_cons_of_mem _ hy)) q.1 (by omega)
          have pf := (fold_props hg n xs (visit g n l' x) (fun y hy => hx y (List.mem_cons_of_mem _ hy)) q.1).2
          refine ⟨fun y hy => ?_, fun y hy => ?_⟩
          · rcases List.mem_cons.1 hy with rfl | hy
            · exact pf.subset e.1
            · exact r.1 y hy
          · rcases r.2 y hy with h | h
            · rcases e.2 y h with h | h
              · exact .inl h
              · exact .inr fun z hz => pf.subset (h z hz)
            · exact .inr h
      have k := key _ _ (hg a h0 h1) (hl.snoc ha ⟨h0, h1⟩) (by simp; omega)
      have pf := (fold_props hg n (g a) (l ++ [a]) (hg a h0 h1) (hl.snoc ha ⟨h0, h1⟩)).2
      refine ⟨pf.subset (by simp), fun x hx => ?_⟩
      rcases k.2 x hx with h | h
      · rcases List.mem_append.1 h with h | h
        · exact .inl h
        · rw [List.mem_singleton.1 h]; exact .inr k.1
      · exact .inr h

/-- Other names. -/
theorem visit_map {g' : Int → List Int} {φ : Int → Int} {D : Int → Prop} (hD : ∀ a, D a → ∀ x ∈ g a, D x) (inj : ∀ x y, D x → D y → φ x = φ y → x = y) (hg' : ∀ a, D a → g' (φ a) = (g a).map φ) :
    ∀ (n : Nat) (l : List Int) (a : Int), (∀ x ∈ l, D x) → D a → visit g' n (l.map φ) (φ a) = (visit g n l a).map φ ∧ ∀ x ∈ visit g n l a, D x
  | 0, l, a, hl, _ => ⟨rfl, hl⟩
  | n + 1, l, a, hl, ha => by
    have hm : φ a ∈ l.map φ ↔ a ∈ l := by
      rw [List.mem_map]
      constructor
      · rintro ⟨x, hx, e⟩; rw [← inj x a (hl x hx) ha e]; exact hx
      · intro h; exact ⟨a, h, rfl⟩
    simp only [visit, hm]
    split
    · exact ⟨rfl, hl⟩
    · have key : ∀ (xs : List Int) (l' : List Int), (∀ x ∈ xs, D x) → (∀ x ∈ l', D x) → (xs.map φ).foldl (visit g' n) (l'.map φ) = (xs.foldl (visit g n) l').map φ ∧ ∀ x ∈ xs.foldl (visit g n) l', D x := by
        intro xs
        induction xs with
        | nil => intro l' _ h; exact ⟨rfl, h⟩
        | cons x xs ih =>
          intro l' hx hl'
          have e := visit_map hD inj hg' n l' x hl' (hx x List.mem_cons_self)
          simp only [List.map_cons, List.foldl_cons, e.1]
          exact ih _ (fun y hy => hx y (List.mem_cons_of_mem _ hy)) e.2
      have := key (g a) (l ++ [a]) (hD a ha) (fun x hx => by
        rcases List.mem_append.1 hx with h | h
        · exact hl x h
        · rw [List.mem_singleton.1 h]; exact ha)
      rw [hg' a ha]
      rw [List.map_append, List.map_singleton] at this
      exact this
end

theorem placeF_mem {l : List Int} {x : Int} (hx : x ∈ l) : ∃ k, ∃ hk : k < l.length, idxOf l x = (k : Nat) ∧ l[k] = x := by
  rcases placeF_split (p := fun y => decide (x = y)) (l := l) with ⟨h1, _⟩ | ⟨k, hk, h1, _, h3⟩
  · have := List.any_eq_false.1 h1 x hx
    simp at this
  · exact ⟨k, hk, h1, by simpa using (by simpa using h3 : x = l[k]).symm⟩
theorem idxOf_inj {l : List Int} {x y : Int} (hx : x ∈ l) (hy : y ∈ l) (h : idxOf l x = idxOf l y) : x = y := by
  obtain ⟨k, hk, e1, e2⟩ := placeF_mem hx
  obtain ⟨k', hk', e1', e2'⟩ := placeF_mem hy
  have : k = k' := by omega
  subst this
  rw [← e2, ← e2']
theorem idxOf_get {l : List Int} (hn : l.Nodup) {k : Nat} (hk : k < l.length) : idxOf l l[k] = (k : Nat) := by
  obtain ⟨k', hk', e1, e2⟩ := placeF_mem (List.getElem_mem hk)
  have : k' = k := (List.getElem_inj hn).1 e2
  rw [e1, this]
theorem map_idxOf {l : List Int} (hn : l.Nodup) : l.map (idxOf l) = nums l.length := by
  apply List.ext_getElem
  · simp [nums]
  · intro i h1 h2
    simp only [List.getElem_map, nums, List.getElem_range]
    exact idxOf_get hn (by simpa using h1)
theorem idxOf_nums {n : Nat} {j : Int} (h0 : 0 ≤ j) (h1 : j < (n : Int)) : idxOf (nums n) j = j := by
  have hj : j ∈ nums n := List.mem_map.2 ⟨j.toNat, List.mem_range.2 (by omega), by omega⟩
  obtain ⟨k, hk, e1, e2⟩ := placeF_mem hj
  rw [e1]
  simp only [nums, List.getElem_map, List.getElem_range] at e2
  exact e2
end Go.Proofs.Ytpdgjdnipkmocaa

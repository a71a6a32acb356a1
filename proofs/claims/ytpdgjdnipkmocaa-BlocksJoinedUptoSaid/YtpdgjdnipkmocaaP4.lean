/- Joining two blocks leaves the order but for the second. -/
import Derived.Test.YtpdgjdnipkmocaaP2
set_option linter.unusedVariables false
set_option linter.unusedSimpArgs false
namespace Go.Proofs.Ytpdgjdnipkmocaa
open Go.Ev

/-- One way of a skip: what holds before a visit. -/
structure SkP (N : Nat) (D : Int → Prop) (a b : Int) (n m : Nat) (l : List Int) : Prop where
  nums : Nums N l
  dom : ∀ x ∈ l, D x
  both : a ∈ l ↔ b ∈ l
  fn : N + 1 ≤ n + l.length
  fm : N + 1 ≤ m + (l.erase b).length

/-- A graph in which a goes to b alone, and only a goes to b; g' lets a go where b goes. -/
structure Skip (N : Nat) (g g' : Int → List Int) (D : Int → Prop) (a b : Int) : Prop where
  hg : ∀ x, 0 ≤ x → x < (N : Int) → ∀ y ∈ g x, 0 ≤ y ∧ y < (N : Int)
  dn : ∀ x, D x → 0 ≤ x ∧ x < (N : Int)
  cl : ∀ x, D x → ∀ y ∈ g x, D y
  ab : a ≠ b
  da : D a
  ga : g a = [b]
  no : ∀ x, D x → x ≠ a → b ∉ g x
  ga' : g' a = g b
  gx' : ∀ x, D x → x ≠ a → x ≠ b → g' x = g x

section
variable {N : Nat} {g g' : Int → List Int} {D : Int → Prop} {a b : Int}

theorem fold_skip (k : Skip N g g' D a b) {n m : Nat}
    (IH : ∀ l x, SkP N D a b n m l → D x → x ≠ b → visit g' m (l.erase b) x = (visit g n l x).erase b ∧ (a ∈ visit g n l x ↔ b ∈ visit g n l x) ∧ ∀ y ∈ visit g n l x, D y) :
    ∀ (xs l : List Int), (∀ x ∈ xs, D x ∧ x ≠ b) → SkP N D a b n m l →
      xs.foldl (visit g' m) (l.erase b) = (xs.foldl (visit g n) l).erase b ∧ (a ∈ xs.foldl (visit g n) l ↔ b ∈ xs.foldl (visit g n) l) ∧ ∀ y ∈ xs.foldl (visit g n) l, D y := by
  intro xs
  induction xs with
  | nil => intro l _ sp; exact ⟨rfl, sp.both, sp.dom⟩
  | cons x xs ih =>
    intro l hx sp
    obtain ⟨d, ne⟩ := hx x List.mem_cons_self
    obtain ⟨e1, e2, e3⟩ := IH l x sp d ne
    have q := visit_props k.hg n l x sp.nums (k.dn x d).1 (k.dn x d).2
    have q2 := q.2.length_le
    have q3 := (q.2.sublist.erase b).length_le
    simp only [List.foldl_cons, e1]
    exact ih _ (fun y hy => hx y (List.mem_cons_of_mem _ hy)) ⟨q.1, e3, e2, by have := sp.fn; omega, by have := sp.fm; omega⟩

theorem visit_skip (k : Skip N g g' D a b) : ∀ (n m : Nat) (l : List Int) (x : Int), SkP N D a b n m l → D x → x ≠ b →
    visit g' m (l.erase b) x = (visit g n l x).erase b ∧ (a ∈ visit g n l x ↔ b ∈ visit g n l x) ∧ ∀ y ∈ visit g n l x, D y := by
  intro n
  induction n using Nat.strongRecOn with
  | _ n ih =>
    intro m l x sp dx nx
    have hl := sp.nums.length
    have hle := (List.erase_sublist (a := b) (l := l)).length_le
    have f1 := sp.fn
    have f2 := sp.fm
    obtain ⟨n, rfl⟩ : ∃ n', n = n' + 1 := ⟨n - 1, by omega⟩
    obtain ⟨m, rfl⟩ : ∃ m', m = m' + 1 := ⟨m - 1, by omega⟩
    have hm : x ∈ l.erase b ↔ x ∈ l := List.mem_erase_of_ne nx
    simp only [visit, hm]
    split
    · exact ⟨rfl, sp.both, sp.dom⟩
    · rename_i hx
      have nl := sp.nums.snoc hx (k.dn x dx)
      by_cases hxa : x = a
      · subst hxa
        have hb : b ∉ l := fun q => hx (sp.both.2 q)
        have hb2 : b ∉ l ++ [x] := by
          intro q
          rcases List.mem_append.1 q with q | q
          · exact hb q
          · exact k.ab (List.mem_singleton.1 q).symm
        have db : D b := k.cl x dx b (by rw [k.ga]; simp)
        have nl2 := nl.snoc hb2 (k.dn b db)
        have hl2 := nl2.length
        simp at hl2
        obtain ⟨n, rfl⟩ : ∃ n', n = n' + 1 := ⟨n - 1, by omega⟩
        rw [k.ga, k.ga', List.erase_of_not_mem hb]
        simp only [List.foldl_cons, List.foldl_nil, visit]
        rw [if_neg hb2]
        have he : (l ++ [x] ++ [b]).erase b = l ++ [x] := by
          rw [List.erase_append_right _ hb2]; simp
        have := fold_skip k (n := n) (m := m) (fun l y h1 h2 h3 => ih n (by omega) m l y h1 h2 h3) (g b) (l ++ [x] ++ [b]) (fun y hy => ⟨k.cl b db y hy, fun q => k.no b db (Ne.symm k.ab) (q ▸ hy)⟩) ⟨nl2, fun y hy => ?_, by simp, by simp; omega, ?_⟩
        · rw [he] at this
          exact this
        · simp only [List.mem_append, List.mem_singleton] at hy
          rcases hy with (hy | rfl) | rfl
          · exact sp.dom y hy
          · exact dx
          · exact db
        · rw [he]
          rw [List.erase_of_not_mem hb] at f2
          simp; omega
      · rw [k.gx' x dx hxa nx]
        have he : (l ++ [x]).erase b = l.erase b ++ [x] := by
          by_cases hb : b ∈ l
          · rw [List.erase_append_left _ hb]
          · rw [List.erase_append_right _ hb, List.erase_of_not_mem hb, List.erase_of_not_mem (by simp; exact fun q => nx q.symm)]
        have := fold_skip k (n := n) (m := m) (fun l y h1 h2 h3 => ih n (by omega) m l y h1 h2 h3) (g x) (l ++ [x]) (fun y hy => ⟨k.cl x dx y hy, fun q => k.no x dx hxa (q ▸ hy)⟩) ⟨nl, fun y hy => ?_, ?_, by simp; omega, ?_⟩
        · rw [he] at this
          exact this
        · rcases List.mem_append.1 hy with hy | hy
          · exact sp.dom y hy
          · rw [List.mem_singleton.1 hy]; exact dx
        · simp only [List.mem_append, List.mem_singleton, sp.both]
          constructor
          · rintro (q | rfl)
            · exact .inl q
            · exact absurd rfl hxa
          · rintro (q | rfl)
            · exact .inl q
            · exact absurd rfl nx
        · rw [he]; simp; omega
end
end Go.Proofs.Ytpdgjdnipkmocaa

/- The reference: the sets of variables that are live together. -/
import Derived.Test.YtbnfcdjlbabddaaV9
set_option linter.unusedVariables false
set_option linter.unusedSimpArgs false
namespace Go.Proofs.Ytbnfcdjlbabddaa
open Go.Ev

mutual
def subsP : Tr → List Tr
  | .node a ts => .node a ts :: subsPs ts
def subsPs : List Tr → List Tr
  | [] => []
  | t :: ts => subsP t ++ subsPs ts
end
theorem subsPs_eq : ∀ ts : List Tr, subsPs ts = ts.flatMap subsP
  | [] => rfl
  | t :: ts => by rw [subsPs, subsPs_eq ts]; rfl
mutual
theorem subsP_pre : ∀ t : Tr, (subsP t).map Tr.root = t.pre
  | .node a ts => by rw [subsP, Tr.pre, List.map_cons, subsPs_pre ts]; rfl
theorem subsPs_pre : ∀ ts : List Tr, (subsPs ts).map Tr.root = pres ts
  | [] => rfl
  | t :: ts => by rw [subsPs, pres, List.map_append, subsP_pre t, subsPs_pre ts]
end
theorem subsP_ok {f : LFun} {sc : List Int} {t : Tr} (h : Ok f sc t) : ∀ u ∈ subsP t, ∃ sc', Ok f sc' u := by
  induction h with
  | @node sc a ts ha hu hl hr hs hb ih =>
    intro u hu'
    rw [subsP] at hu'
    rcases List.mem_cons.1 hu' with rfl | q
    · exact ⟨sc, .node ha hu hl hr hs hb⟩
    · rw [subsPs_eq] at q
      obtain ⟨t, ht, q⟩ := List.mem_flatMap.1 q
      obtain ⟨k, hk, rfl⟩ := List.getElem_of_mem ht
      exact ih k hk (by omega) u q
def kidsN (f : LFun) : Tr → List (List Int)
  | .node a ts => (ts.zip (edg (nodeAt f a))).map fun p => un (atL f p.1) p.2.2
def setsN (f : LFun) (t : Tr) : List (List Int) := atL f t :: kidsN f t
theorem setsN_mem {f : LFun} {sc : List Int} {t : Tr} (h : Ok f sc t) : ∀ x, x ∈ (subsP t).flatMap (setsN f) ↔ x ∈ setsL f t := by
  induction h with
  | @node sc a ts ha hu hl hr hs hb ih =>
    intro x
    rw [subsP, List.flatMap_cons, setsL, setsC_eq, List.mem_append, List.mem_append, List.mem_singleton, setsN, kidsN, List.mem_cons, List.mem_map, List.mem_flatMap, List.mem_flatMap]
    constructor
    · rintro ((h | ⟨p, hp, rfl⟩) | ⟨u, hu', hx⟩)
      · exact .inr h
      · exact .inl ⟨p, hp, List.mem_append_right _ (by simp)⟩
      · rw [subsPs_eq] at hu'
        obtain ⟨t, ht, hu'⟩ := List.mem_flatMap.1 hu'
        obtain ⟨k, hk, rfl⟩ := List.getElem_of_mem ht
        have hk' : k < (edg (nodeAt f a)).length := by omega
        refine .inl ⟨(ts[k], (edg (nodeAt f a))[k]), ?_, List.mem_append_left _ ((ih k hk hk' x).1 (List.mem_flatMap.2 ⟨u, hu', hx⟩))⟩
        exact List.mem_iff_getElem.2 ⟨k, by simp [List.length_zip]; omega, by simp⟩
    · rintro (⟨p, hp, hx⟩ | h)
      · rcases List.mem_append.1 hx with hx | hx
        · obtain ⟨k, hk, rfl⟩ := List.getElem_of_mem hp
          have hk1 : k < ts.length := by rw [List.length_zip] at hk; omega
          have hk2 : k < (edg (nodeAt f a)).length := by omega
          rw [List.getElem_zip] at hx
          obtain ⟨u, hu', hx⟩ := List.mem_flatMap.1 ((ih k hk1 hk2 x).2 hx)
          exact .inr ⟨u, by rw [subsPs_eq]; exact List.mem_flatMap.2 ⟨_, List.getElem_mem hk1, hu'⟩, hx⟩
        · exact .inl (.inr ⟨p, hp, (List.mem_singleton.1 hx).symm⟩)
      · exact .inl (.inl h)
theorem kidsN_get {f : LFun} {a : Int} {ts : List Tr} {k : Nat} (hk : k < ts.length) (hk' : k < (edg (nodeAt f a)).length) (h : k < (kidsN f (.node a ts)).length) : (kidsN f (.node a ts))[k] = un (atL f ts[k]) (edg (nodeAt f a))[k].2 := by
  simp only [kidsN, List.getElem_map, List.getElem_zip]
theorem kidsN_len {f : LFun} {a : Int} {ts : List Tr} (hl : ts.length = (edg (nodeAt f a)).length) : (kidsN f (.node a ts)).length = ts.length := by
  simp only [kidsN, List.length_map, List.length_zip]; omega
end Go.Proofs.Ytbnfcdjlbabddaa

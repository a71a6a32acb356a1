/- Live variables: what holds at each node. -/
import Derived.Test.YtbnfcdjlbabddaaD4
set_option linter.unusedVariables false
set_option linter.unusedSimpArgs false
namespace Go.Proofs.Ytbnfcdjlbabddaa
open Go.Ev
variable {f : LFun}

theorem sub_at {sc : List Int} {t : Tr} (h : Ok f sc t) : ∀ a ∈ t.pre, ∃ sc' t', Ok f sc' t' ∧ t'.root = a ∧ (a, atL f t') ∈ atM f t ∧ (a, afL f t') ∈ afM f t ∧ (∀ x ∈ setsL f t', x ∈ setsL f t) := by
  induction h with
  | @node sc a ts ha hu hl hr hs hb ih =>
    intro b hb'
    rw [Tr.pre] at hb'
    rcases List.mem_cons.1 hb' with rfl | hb'
    · exact ⟨sc, .node b ts, .node ha hu hl hr hs hb, rfl, by rw [atM]; simp, by rw [afM]; simp [afL], fun x hx => hx⟩
    · rw [pres_eq] at hb'
      obtain ⟨t1, ht1, hb'⟩ := List.mem_flatMap.1 hb'
      obtain ⟨k, hk, rfl⟩ := List.getElem_of_mem ht1
      have hk' : k < (edg (nodeAt f a)).length := by omega
      obtain ⟨sc', t', h1, h2, h3, h4, h5⟩ := ih k hk hk' b hb'
      refine ⟨sc', t', h1, h2, ?_, ?_, fun x hx => ?_⟩
      · rw [atM, atMs_eq]
        exact List.mem_append_left _ (List.mem_flatMap.2 ⟨_, List.getElem_mem hk, h3⟩)
      · rw [afM, afMs_eq]
        exact List.mem_append_left _ (List.mem_flatMap.2 ⟨_, List.getElem_mem hk, h4⟩)
      · rw [setsL, setsC_eq]
        refine List.mem_append_left _ (List.mem_flatMap.2 ⟨(ts[k], (edg (nodeAt f a))[k]), ?_, List.mem_append_left _ (h5 x hx)⟩)
        rw [List.mem_iff_getElem]
        exact ⟨k, by rw [List.length_zip]; omega, by rw [List.getElem_zip]⟩
theorem atL_sets (t : Tr) : atL f t ∈ setsL f t := by
  cases t
  rw [setsL]; simp
theorem atL_sorted (t : Tr) : (atL f t).Pairwise (· < ·) := by
  cases t
  rw [atL]; exact un_sorted _ _
theorem atL_mem (t : Tr) (v : Int) : v ∈ atL f t ↔ v ∈ uses (nodeAt f t.root) ∨ (v ∈ afL f t ∧ v ∉ binds (nodeAt f t.root)) := by
  cases t with
  | node a ts =>
    rw [atL, mem_un, List.mem_filter, afL, mem_un]
    simp only [Tr.root]
    constructor
    · rintro (⟨h1, h2⟩ | h)
      · exact .inr ⟨.inl h1, by simpa using h2⟩
      · exact .inl h
    · rintro (h | ⟨h1 | h1, h2⟩)
      · exact .inr h
      · exact .inl ⟨h1, by simpa using h2⟩
      · cases h1
theorem afL_len {sc : List Int} {t : Tr} (hf : FitF f) (h : Ok f sc t) : (afL f t).length ≤ 20 * 120 := by
  cases t with
  | node a ts =>
    obtain ⟨ha, hu, hl, hr, hs, hb⟩ := h.inv
    have v120 := hf.vars
    have hfn := hf.node _ (nodeAt_mem (f := f) (a := a) (by omega))
    rw [afL]
    refine Nat.le_trans (un_len _ _) ?_
    rw [afC_eq, List.length_nil, Nat.add_zero]
    refine Nat.le_trans (flatMap_len (m := 120) fun x hx => ?_) (Nat.mul_le_mul_right _ (by have := edg_len (nodeAt f a); have := kids_fit hfn; omega))
    obtain ⟨k, hk, rfl⟩ := List.getElem_of_mem hx
    have := (atL_nums (hs k hk (by omega))).length
    omega
end Go.Proofs.Ytbnfcdjlbabddaa

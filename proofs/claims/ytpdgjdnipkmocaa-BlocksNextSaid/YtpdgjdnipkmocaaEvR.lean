/- Regions that draw their order. -/
import Derived.Test.YtpdgjdnipkmocaaEvQ
set_option linter.unusedVariables false
set_option linter.unusedSimpArgs false
namespace Go.Ev
section
variable {P : Program} {call : Nat → List PV → AH → Option (PV × AH)} {pu : Nat → Bool} {ρ : Nat → Option (Nat × Nat)} {I : Nat → Prop} {h h' : AH} {w : World} {nt : Nat} {a : Act} {s s' : Fr} {v : PV}

def isL (listed : Array Bool) (i : Nat) : Bool := listed.getD i false

theorem isL_set {listed : Array Bool} {i j : Nat} (hi : i < listed.size) : isL (listed.setIfInBounds i true) j = (isL listed j || j == i) := by
  unfold isL
  simp only [Array.getD_eq_getD_getElem?]
  by_cases q : i = j
  · subst q; simp [hi]
  · rw [Array.getElem?_setIfInBounds_ne q]
    have : (j == i) = false := by simp; exact fun e => q e.symm
    rw [this, Bool.or_false]

/-- What is not listed yet, in the order of the text. -/
def remOf (n : Nat) (listed : Array Bool) : List Nat := (List.range n).filter fun i => !isL listed i

theorem ready_mem {all : Array Oper} {listed : Array Bool} (hsz : listed.size = all.size) {i : Nat} :
    i ∈ Region.ready .any all listed ↔ i < all.size ∧ isL listed i = false ∧ ∀ o, all[i]? = some o → ∀ e ∈ edges o, isL listed e = true := by
  unfold Region.ready
  simp only [List.mem_filter, List.mem_range, Bool.and_eq_true, Bool.not_eq_true']
  constructor
  · rintro ⟨h1, h2, h3⟩
    have hi : all[i]? = some all[i] := Array.getElem?_eq_getElem h1
    refine ⟨h1, ?_, fun o ho e he => ?_⟩
    · unfold isL
      have : i < listed.size := by omega
      simp [Array.getD, this] at h2 ⊢
      exact h2
    · rw [ho] at h3
      simp only [Option.map_some, Option.getD_some, Array.all_eq_true_iff_forall_mem] at h3
      simp only [edges, List.mem_map, List.mem_filter] at he
      obtain ⟨x, ⟨hx, hb⟩, rfl⟩ := he
      have := h3 x (by simpa using hx)
      simpa [hb, isL] using this
  · rintro ⟨h1, h2, h3⟩
    have hi : all[i]? = some all[i] := Array.getElem?_eq_getElem h1
    refine ⟨h1, ?_, ?_⟩
    · unfold isL at h2
      have : i < listed.size := by omega
      simp [Array.getD, this] at h2 ⊢
      exact h2
    · rw [hi]
      simp only [Option.map_some, Option.getD_some, Array.all_eq_true_iff_forall_mem]
      intro x hx
      by_cases hb : Region.binds .any x = true
      · have := h3 _ hi x.on (by simp only [edges, List.mem_map, List.mem_filter]; exact ⟨x, ⟨by simpa using hx, hb⟩, rfl⟩)
        simp [isL] at this
        simp [this]
      · simp [hb]

theorem range_cut {n i : Nat} (hi : i < n) : List.range n = List.range i ++ i :: List.range' (i + 1) (n - i - 1) := by
  rw [List.range_eq_range', List.range_eq_range']
  have e : n = i + (n - i) := by omega
  have e2 : n - i = (n - i - 1) + 1 := by omega
  conv => lhs; rw [e]
  rw [← List.range'_append_1, Nat.zero_add]
  conv => lhs; rw [e2]
  rw [List.range'_succ]

theorem wpAny_seq {ow : Nat → Bool} {all : Array Oper} {cops : List COper} {Q : Exit → Act → World → Prop} (hcl : cops.length = all.size) (hpair : ∀ (i : Nat) o c, all[i]? = some o → cops[i]? = some c → Pair P ow nt all o c) (hco : CallOk P call) (hp : PureOk pu call) (hwf : WfOk call)
    (hd : drawOk pu all.toList cops = true) :
    ∀ (fuel : Nat) (listed : Array Bool) (a : Act) (w : World) (ρ : Nat → Option (Nat × Nat)) (I : Nat → Prop) (s : Fr) (h : AH), listed.size = all.size → (remOf all.size listed).length ≤ fuel →
      (∀ i o, isL listed i = true → all[i]? = some o → ∀ e ∈ edges o, isL listed e = true) → FR ρ I w nt a s → SR ρ I h w → evSeq call cops (remOf all.size listed) s h = some (s', h') →
      (∀ a' w' ρ' I', St ρ I h w ρ' I' h' w' → SR ρ' I' h' w' → FR ρ' I' w' nt a' s' → Q .normal a' w') → wpAny P .any all Q fuel listed a w := by
  have hB := befs_spec (all.toList.map edges) []
  simp only [List.length_nil, Nat.zero_le, Nat.zero_add, forall_const, Nat.sub_zero, true_and, Nat.not_lt_zero, false_implies, implies_true, List.length_map, Array.length_toList] at hB
  have hdr : ∀ i, i < all.size → (∀ e ∈ (all.toList.map edges).getD i [], e < i) ∧ ∀ j, j < i → ((befs [] (all.toList.map edges)).getD i []).contains j = true ∨ ∃ x y, cops[j]? = some x ∧ cops[i]? = some y ∧ apartC pu x y = true := by
    intro i hi
    unfold drawOk at hd
    simp only [List.all_eq_true, List.mem_range, Bool.and_eq_true, decide_eq_true_eq, Bool.or_eq_true] at hd
    obtain ⟨d1, d2⟩ := hd i (by omega)
    refine ⟨d1, fun j hj => ?_⟩
    rcases d2 j hj with q | q
    · exact .inl q
    · right
      split at q
      · rename_i x y hx hy; exact ⟨x, y, hx, hy, q⟩
      · cases q
  have hedge : ∀ i o, all[i]? = some o → (all.toList.map edges).getD i [] = edges o := by
    intro i o ho
    have : all.toList[i]? = some o := by simpa using ho
    simp [List.getD_eq_getElem?_getD, this]
  intro fuel
  have emptyReady : ∀ (listed : Array Bool), listed.size = all.size → Region.ready .any all listed = [] → remOf all.size listed = [] := by
    intro listed hsz hr
    rcases hrem : remOf all.size listed with _ | ⟨i, l⟩
    · rfl
    · exfalso
      have hmem : i ∈ remOf all.size listed := by rw [hrem]; simp
      simp only [remOf, List.mem_filter, List.mem_range, Bool.not_eq_true'] at hmem
      have hmin : ∀ j, j < i → isL listed j = true := by
        intro j hj
        cases hq : isL listed j with
        | true => rfl
        | false =>
          exfalso
          have hjm : j ∈ remOf all.size listed := by simp [remOf, hq]; omega
          have hpw : (remOf all.size listed).Pairwise (· < ·) := (List.pairwise_lt_range).filter _
          rw [hrem] at hjm hpw
          rw [List.pairwise_cons] at hpw
          rcases List.mem_cons.1 hjm with q | q
          · omega
          · have := hpw.1 j q; omega
      have : i ∈ Region.ready .any all listed := (ready_mem hsz).2 ⟨hmem.1, hmem.2, fun o ho e he => hmin e ((hdr i hmem.1).1 e (by rw [hedge i o ho]; exact he))⟩
      rw [hr] at this
      cases this
  induction fuel with
  | zero =>
    intro listed a w ρ I s h hsz hlen hcl' hf hs e hQ
    have hrem : remOf all.size listed = [] := List.eq_nil_of_length_eq_zero (by omega)
    refine ⟨?_, ?_⟩
    · cases hr : Region.ready .any all listed with
      | nil => rfl
      | cons i l =>
        have hi : i ∈ Region.ready .any all listed := by rw [hr]; simp
        obtain ⟨h1, h2, _⟩ := (ready_mem hsz).1 hi
        have : i ∈ remOf all.size listed := by simp [remOf, h1, h2]
        rw [hrem] at this
        cases this
    · rw [hrem] at e
      cases e
      exact hQ a w ρ I .refl hs hf
  | succ fuel ih =>
    intro listed a w ρ I s h hsz hlen hcl' hf hs e hQ
    refine ⟨fun hr => ?_, fun i hi => ?_⟩
    · rw [emptyReady listed hsz hr] at e
      cases e
      exact hQ a w ρ I .refl hs hf
    · obtain ⟨h1, h2, h3⟩ := (ready_mem hsz).1 hi
      have hio : all[i]? = some all[i] := Array.getElem?_eq_getElem h1
      have hic : cops[i]? = some (cops[i]'(by omega)) := List.getElem?_eq_getElem (by omega)
      generalize hoi : all[i] = o at hio
      generalize hci : cops[i]'(by omega) = c at hic
      -- what i waits for is listed
      have hbl : ∀ k, k < all.size → (∀ e ∈ (all.toList.map edges).getD k [], isL listed e = true) → ∀ j ∈ (befs [] (all.toList.map edges)).getD k [], isL listed j = true := by
        intro k
        induction k using Nat.strongRecOn with
        | _ k ihk =>
          intro hk he j hj
          rcases hB k hk j hj with q | ⟨e, q1, q2, q3⟩
          · exact he j q
          · have hel := he e q1
            have hek : e < all.size := by omega
            have heo : all[e]? = some all[e] := Array.getElem?_eq_getElem hek
            exact ihk e q2 hek (fun x hx => hcl' e _ hel heo x (by rw [hedge e _ heo] at hx; exact hx)) j q3
      have hsplit : remOf all.size listed = ((List.range i).filter fun j => !isL listed j) ++ i :: ((List.range' (i + 1) (all.size - i - 1)).filter fun j => !isL listed j) := by
        unfold remOf
        rw [range_cut h1, List.filter_append, List.filter_cons]
        simp [h2]
      have hsplit' : remOf all.size (listed.setIfInBounds i true) = ((List.range i).filter fun j => !isL listed j) ++ ((List.range' (i + 1) (all.size - i - 1)).filter fun j => !isL listed j) := by
        unfold remOf
        rw [range_cut h1, List.filter_append, List.filter_cons]
        have hset : ∀ j, isL (listed.setIfInBounds i true) j = (isL listed j || j == i) := fun j => isL_set (by omega)
        rw [if_neg (by simp [hset])]
        congr 1
        · apply List.filter_congr
          intro j hj
          have : j < i := by simpa using hj
          rw [hset]
          simp [show ¬ j = i by omega]
        · apply List.filter_congr
          intro j hj
          have : i + 1 ≤ j := (List.mem_range'_1.1 hj).1
          rw [hset]
          simp [show ¬ j = i by omega]
      rw [hsplit] at e
      have hmv := move_front (i := i) (oi := c) hp hwf hic _ _ s h (s', h') (by
        intro k hk
        cases hb : h.blk k with
        | none => rfl
        | some B => have := hs.blkNx (i := k) (by rw [hb]; simp); omega) (by
        intro j hj
        simp only [List.mem_filter, List.mem_range, Bool.not_eq_true'] at hj
        rcases (hdr i h1).2 j hj.1 with q | ⟨x, y, hx, hy, q⟩
        · exfalso
          have := hbl i h1 (fun e he => h3 o hio e (by rw [hedge i o hio] at he; exact he)) j (by simpa using q)
          rw [hj.2] at this
          cases this
        · rw [hic] at hy
          cases hy
          exact ⟨x, hx, q⟩) e
      simp only [evSeq, hic] at hmv
      cases hst : evStep call c s h with
      | none => simp [hst] at hmv
      | some p =>
        obtain ⟨s1, hh1⟩ := p
        simp only [hst] at hmv
        refine wp_step (hpair i o c hio hic) hio hf hs hst hco fun a' w' ρ' I' st hs' hf' => ?_
        refine ih (listed.setIfInBounds i true) a' w' ρ' I' s1 hh1 (by simpa using hsz) ?_ ?_ hf' hs' (by rw [hsplit']; exact hmv) fun a2 w2 ρ2 I2 st2 hs2 hf2 => hQ a2 w2 ρ2 I2 (st.trans st2) hs2 hf2
        · rw [hsplit']
          rw [hsplit] at hlen
          simp only [List.length_append, List.length_cons] at hlen ⊢
          omega
        · intro k o' hk ho' ee he
          rw [isL_set (by omega)] at hk ⊢
          simp only [Bool.or_eq_true, beq_iff_eq] at hk ⊢
          rcases hk with hk | rfl
          · exact .inl (hcl' k o' hk ho' ee he)
          · exact .inl (h3 o' ho' ee he)
end
end Go.Ev

/- Chapter 46: the registers that are given out are valid, and as few as the width. The law AssignFits, evaluated. -/
import Derived.Test.YtbnfcdjlbabddaaR3
import Derived.Test.YtbnfcdjlbabddaaE3
set_option linter.unusedVariables false
set_option linter.unusedSimpArgs false
namespace Go.Proofs.Ytbnfcdjlbabddaa
open Go.Ev

theorem treeS_vn {f : LFun} {t : Tr} (h : treeS f = some t) : VN f (bnd f t) := by
  obtain ⟨_, _, nd, vs, hS⟩ := treeS_some h
  obtain ⟨_, h2, _⟩ := shapeS_props hS
  obtain ⟨_, _, _, rfl, _⟩ := shapeS_ok hS
  exact h2
theorem sets_nodup {f : LFun} {sc : List Int} {t : Tr} (h : Ok f sc t) : ∀ x ∈ setsL f t, x.Nodup := by
  induction h with
  | @node sc a ts ha hu hl hr hs hb ih =>
    intro x hx
    rw [setsL] at hx
    rcases List.mem_append.1 hx with hx | hx
    · rw [setsC_eq] at hx
      obtain ⟨p, hp, hx⟩ := List.mem_flatMap.1 hx
      obtain ⟨k, hk, rfl⟩ := List.getElem_of_mem hp
      have hk1 : k < ts.length := by rw [List.length_zip] at hk; omega
      have hk2 : k < (edg (nodeAt f a)).length := by omega
      rw [List.getElem_zip] at hx
      rcases List.mem_append.1 hx with hx | hx
      · exact ih k hk1 hk2 x hx
      · rw [List.mem_singleton.1 hx]; exact un_nodup _ _
    · rw [List.mem_singleton.1 hx]
      exact (atL_nums (.node ha hu hl hr hs hb)).1
theorem widS_le {L : List (List Int)} {N : Nat} (h : ∀ x ∈ L, x.length ≤ N) : widS L ≤ N := by
  refine snoc_ind (P := fun L => (∀ x ∈ L, x.length ≤ N) → widS L ≤ N) (fun _ => by simp [widS]) (fun L a ih h => ?_) L h
  rw [widS_snoc]
  have := ih fun x hx => h x (List.mem_append_left _ hx)
  have := h a (by simp)
  omega

theorem regs_ok {f : LFun} {t : Tr} (ht : treeS f = some t) :
    (regsT f t = none → 16 < widS (allS f t)) ∧ ∀ o, regsT f t = some o → Valid f t (regL f o) ∧ mostS (regL f o) = (widS (allS f t) : Nat) ∧ widS (allS f t) ≤ 16 := by
  obtain ⟨hok, hroot, hnp, hsz, hpo⟩ := treeS_ok ht
  have hp0 := hpo.1
  have hp1 := hpo.2
  have hvn := treeS_vn ht
  have hN : nums f.params.toNat ∈ allS f t := by simp [allS]
  have hNl := widS_ge hN
  rw [nums_len] at hNl
  by_cases h16 : f.params ≤ 16
  case neg =>
    have e : regsT f t = none := by unfold regsT; rw [if_neg h16]
    exact ⟨fun _ => by omega, fun o q => by rw [e] at q; cases q⟩
  have e : regsT f t = vis f t (o0 f) := by unfold regsT; rw [if_pos h16]
  rw [e]
  have hsc : ∀ v, inSc f [] v → v < f.params := fun v q => by
    rcases q.2.2 with h | h
    · exact h
    · cases h
  have hV := vis_ok hok (by simpa using hvn) (o0 f) (fun v q => by
    have := hsc v q
    have := q.1
    unfold o0; rw [if_pos (hsc v q)]; omega) (fun v q => by
    have := (hvn.2 v q).2.1
    unfold o0; rw [if_neg (by omega)]) (fun a ha b hb hne => by
    have h1 := hsc a (atL_var hok a ha)
    have h2 := hsc b (atL_var hok b hb)
    unfold o0; rw [if_pos h1, if_pos h2]; exact hne)
  refine ⟨fun q => ?_, fun o q => ?_⟩
  · obtain ⟨x, hx, h⟩ := hV.1 q
    have := widS_ge (L := allS f t) (List.mem_cons_of_mem _ hx)
    omega
  obtain ⟨v1, v2, v3⟩ := hV.2 o q
  have hpar : ∀ v, 0 ≤ v → v < f.params → o v = v := fun v h0 h1 => by
    rw [v1 v fun z => by have := (hvn.2 v z).2.1; omega]
    unfold o0; rw [if_pos h1]
  have hkn : ∀ v, 0 ≤ v → v < (f.vars.length : Int) → known f (bnd f t) v → 0 ≤ o v ∧ o v < 16 ∧ o v + 1 ≤ (widS (allS f t) : Nat) := fun v h0 h1 k => by
    by_cases hp : v < f.params
    · rw [hpar v h0 hp]; omega
    · rcases k with k | k
      · exact absurd k hp
      · obtain ⟨a1, a2, x, hx, a3⟩ := v2 v k
        have := widS_ge (L := allS f t) (List.mem_cons_of_mem _ hx)
        omega
  have hun : ∀ v, 0 ≤ v → ¬ known f (bnd f t) v → o v = -1 := fun v h0 k => by
    rw [v1 v fun z => k (.inr z)]
    unfold o0; rw [if_neg fun z => k (.inl z)]
  have hin : ∀ x ∈ allS f t, inj o x := fun x hx => by
    rcases List.mem_cons.1 hx with rfl | hx
    · intro a ha b hb hne
      obtain ⟨a0, a1⟩ := mem_nums.1 ha
      obtain ⟨b0, b1⟩ := mem_nums.1 hb
      rw [hpar a a0 (by omega), hpar b b0 (by omega)]
      exact hne
    · exact v3 x hx
  have hnd : ∀ x ∈ allS f t, x.Nodup := fun x hx => by
    rcases List.mem_cons.1 hx with rfl | hx
    · exact nums_nodup _
    · exact sets_nodup hok x hx
  have hw : widS (allS f t) ≤ 16 := widS_le fun x hx => inj_len (hnd x hx) (hin x hx) fun v hv => by
    obtain ⟨a1, a2⟩ := allS_var ht x hx v hv
    have := hkn v a1.1 a1.2 a2
    omega
  have hm : mostS (regL f o) = (widS (allS f t) : Nat) := by
    refine Int.le_antisymm ((mostS_le (by omega)).2 fun y hy => ?_) ?_
    · obtain ⟨v, hv, rfl⟩ := List.mem_map.1 hy
      obtain ⟨h0, h1⟩ := mem_nums.1 hv
      by_cases k : known f (bnd f t) v
      · exact (hkn v h0 h1 k).2.2
      · rw [hun v h0 k]; omega
    · have hpos := mostS_pos (regL f o)
      have : widS (allS f t) ≤ (mostS (regL f o)).toNat := widS_le fun x hx => inj_len (hnd x hx) (hin x hx) fun v hv => by
        obtain ⟨a1, a2⟩ := allS_var ht x hx v hv
        have h1 := hkn v a1.1 a1.2 a2
        have h2 := (mostS_le (l := regL f o) hpos).1 (Int.le_refl _) (o v) (List.mem_map.2 ⟨v, mem_nums.2 a1, rfl⟩)
        omega
      omega
  refine ⟨⟨regL_len f o, fun v h0 h1 k => ?_, fun v h0 h1 k => ?_, fun v h0 h1 => ?_, fun a b hm => ?_⟩, hm, hw⟩
  · rw [regL_rg f o h0 h1]; have := hkn v h0 h1 k; omega
  · rw [regL_rg f o h0 h1]; exact hun v h0 k
  · rw [regL_rg f o h0 (by omega)]; exact hpar v h0 h1
  · obtain ⟨hne, x, hx, ha, hb⟩ := meet_mem.1 hm
    obtain ⟨a1, _⟩ := allS_var ht x hx a ha
    obtain ⟨b1, _⟩ := allS_var ht x hx b hb
    rw [regL_rg f o a1.1 a1.2, regL_rg f o b1.1 b1.2]
    exact hin x hx a ha b hb hne

theorem regL_small {f : LFun} {t : Tr} {o : Int → Int} (h : Valid f t (regL f o)) : ∀ x ∈ regL f o, -1 ≤ x ∧ x < 16 := by
  intro x hx
  obtain ⟨v, hv, rfl⟩ := List.mem_map.1 hx
  obtain ⟨h0, h1⟩ := mem_nums.1 hv
  by_cases k : known f (bnd f t) v
  · have := h.kn v h0 h1 k
    rw [regL_rg f o h0 h1] at this; omega
  · have := h.un v h0 h1 k
    rw [regL_rg f o h0 h1] at this; omega
theorem AssignFits_p (f : LFun) (hsm : f.code.length ≤ 1048576) : Pure T 11 [.agg (Enc.c f)] (.bool true) true := by
  refine ⟨c11, rfl, rfl, ?_⟩
  simp [c11, awake46_r, few46_r f hsm]
  cases hfw : few46 f
  · simp
  have hf := few46_fit hfw
  have c80 := hf.code
  have v60 := few46_vars hfw
  have hr := fun {o h d r κ s Q} => pureK_eq (o := o) (h := h) (d := d) (r := r) (κ := κ) (s := s) (Q := Q) (registers_p f hf) (.inl rfl)
  simp only [c_LFun] at hr
  cases ht : treeS f with
  | none =>
    have hw := fun {o h d r κ s Q} => pureK_eq (o := o) (h := h) (d := d) (r := r) (κ := κ) (s := s) (Q := Q) (width_err f hf ht) (.inl rfl)
    simp only [c_LFun] at hw
    simp only [regV, ht] at hr
    simp [hr, hw]
  | some t =>
    obtain ⟨k1, k2⟩ := regs_ok ht
    have hw := fun {o h d r κ s Q} => pureK_eq (o := o) (h := h) (d := d) (r := r) (κ := κ) (s := s) (Q := Q) (width_yes f hf ht) (.inl rfl)
    simp only [c_LFun] at hw
    cases hR : regsT f t with
    | none =>
      have h16 := k1 hR
      simp only [regV, ht, hR] at hr
      have : (16 : Int) < (widS (allS f t) : Nat) := by omega
      simp [hr, hw, this]
    | some o =>
      obtain ⟨hV, hM, h16⟩ := k2 o hR
      simp only [regV, ht, hR] at hr
      have h1 : ¬ (16 : Int) < (widS (allS f t) : Nat) := by omega
      have hc : checkV f (regL f o) = 0 := checkV_zero.2 ⟨t, ht, hV⟩
      have hm := fun {o' h d r κ s Q} => pureK_eq (o := o') (h := h) (d := d) (r := r) (κ := κ) (s := s) (Q := Q) (most_p (regL f o) (by rw [regL_len]; omega) fun x hx => by have := regL_small hV x hx; omega) (.inl rfl)
      simp [hr, hw, h1, check_r f hf, hc, hm, hM]
theorem law_assignFits (x : shFun.den) (o : shFun.ok x ∧ shFun.small 1048576 x) : ∃ g, CE T 11 [.agg (shFun.pv x)] AH.zero (.bool true) g := by
  have hm := mkFun_sm x o.2
  rw [mkFun_c]
  exact ⟨AH.zero, (AssignFits_p (mkFun x) hm.2.2.2.2.1.1).ce (by simp) (.inl rfl)⟩
end Go.Proofs.Ytbnfcdjlbabddaa

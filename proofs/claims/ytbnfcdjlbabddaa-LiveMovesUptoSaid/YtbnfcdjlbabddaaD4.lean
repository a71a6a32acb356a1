/- Live variables: At, After, Width, Interfere. -/
import Derived.Test.YtbnfcdjlbabddaaD3
set_option linter.unusedVariables false
set_option linter.unusedSimpArgs false
namespace Go.Proofs.Ytbnfcdjlbabddaa
open Go.Ev

section
variable {f : LFun} {h : AH} {d : Option Nat} {r : List COper} {κ : List KF} {s : Fr} {Q : Fr → AH → Prop}

theorem at_err (f : LFun) (hf : FitF f) (a : Int) (hn : treeS f = none) : Pure T 14 [.agg (Enc.c f), .int .i64 a] (.tup [sl ([] : List Int), .int .i64 3]) true := by
  refine ⟨c14, rfl, rfl, ?_⟩
  simp [c14]
  refine of_no f hf hn ?_
  simp
theorem at_yes (f : LFun) (hf : FitF f) (a : Int) {t : Tr} (ht : treeS f = some t) {l : List Int} (hl : (a, l) ∈ atM f t) : Pure T 14 [.agg (Enc.c f), .int .i64 a] (.tup [sl l, .int .i64 0]) false := by
  refine ⟨c14, rfl, rfl, ?_⟩
  obtain ⟨_, _, hnp, _, _⟩ := treeS_ok ht
  simp [c14]
  refine of_yes f hf ht (fun h ix pv sv m => ?_)
  have hk := evLkp_ok m.b0 ((atM_perm t).nodup_iff.2 hnp) hl
  simp [m.r2, evNilchk_pt, hk]
theorem at_range (f : LFun) (hf : FitF f) (a : Int) {t : Tr} (ht : treeS f = some t) (hl : a ∉ t.pre) : Pure T 14 [.agg (Enc.c f), .int .i64 a] (.tup [sl ([] : List Int), .int .i64 2]) true := by
  refine ⟨c14, rfl, rfl, ?_⟩
  simp [c14]
  refine of_yes f hf ht (fun h ix pv sv m => ?_)
  have hk := evLkp_no (a := a) m.b0 fun p hp q => hl (q ▸ atM_key hp)
  simp [m.r2, evNilchk_pt, hk]
theorem after_err (f : LFun) (hf : FitF f) (a : Int) (hn : treeS f = none) : Pure T 15 [.agg (Enc.c f), .int .i64 a] (.tup [sl ([] : List Int), .int .i64 3]) true := by
  refine ⟨c15, rfl, rfl, ?_⟩
  simp [c15]
  refine of_no f hf hn ?_
  simp
theorem after_yes (f : LFun) (hf : FitF f) (a : Int) {t : Tr} (ht : treeS f = some t) {l : List Int} (hl : (a, l) ∈ afM f t) : Pure T 15 [.agg (Enc.c f), .int .i64 a] (.tup [sl l, .int .i64 0]) false := by
  refine ⟨c15, rfl, rfl, ?_⟩
  obtain ⟨_, _, hnp, _, _⟩ := treeS_ok ht
  simp [c15]
  refine of_yes f hf ht (fun h ix pv sv m => ?_)
  have hk := evLkp_ok m.b1 (by rw [afM_keys]; exact (atM_perm t).nodup_iff.2 hnp) hl
  simp [m.r2, evNilchk_pt, hk]
theorem after_range (f : LFun) (hf : FitF f) (a : Int) {t : Tr} (ht : treeS f = some t) (hl : a ∉ t.pre) : Pure T 15 [.agg (Enc.c f), .int .i64 a] (.tup [sl ([] : List Int), .int .i64 2]) true := by
  refine ⟨c15, rfl, rfl, ?_⟩
  simp [c15]
  refine of_yes f hf ht (fun h ix pv sv m => ?_)
  have hk := evLkp_no (a := a) m.b1 fun p hp q => hl (q ▸ afM_key hp)
  simp [m.r2, evNilchk_pt, hk]

/-- All sets of variables that are live together. -/
def allS (f : LFun) (t : Tr) : List (List Int) := nums f.params.toNat :: setsL f t
def widS (l : List (List Int)) : Nat := (l.map List.length).foldl max 0
theorem widS_snoc (l : List (List Int)) (x : List Int) : widS (l ++ [x]) = max (widS l) x.length := by simp [widS]

theorem evMM_max (a b : Nat) : evMM true [.int .i64 (a : Int), .int .i64 (b : Int)] = some (.int .i64 ((max a b : Nat) : Int)) := by
  simp only [evMM, List.foldl_cons, List.foldl_nil, if_true]
  congr 2
  split <;> omega

theorem width_err (f : LFun) (hf : FitF f) (hn : treeS f = none) : Pure T 19 [.agg (Enc.c f)] (.tup [.int .i64 0, .int .i64 3]) true := by
  refine ⟨c19, rfl, rfl, ?_⟩
  simp [c19]
  refine of_no f hf hn ?_
  simp
theorem width_yes (f : LFun) (hf : FitF f) {t : Tr} (ht : treeS f = some t) : Pure T 19 [.agg (Enc.c f)] (.tup [.int .i64 (widS (allS f t) : Nat), .int .i64 0]) true := by
  refine ⟨c19, rfl, rfl, ?_⟩
  obtain ⟨_, _, hnp, hsz, _⟩ := treeS_ok ht
  have c80 := hf.code
  have hsl := sets_len (f := f) t
  simp [c19]
  refine of_yes f hf ht (fun h ix pv sv m => ?_)
  have hal : (allS f t).length = (setsL f t).length + 1 := by simp [allS]
  have hlen := m.sa.len
  simp [m.r2, evNilchk_pt, hlen]
  obtain ⟨i, hsv, hr⟩ := acc_rf m.sa (k := 0) (by omega)
  refine WK_range tgrow (fun k s' h' => h' = h ∧ s' 6 = .int .i64 (widS ((allS f t).take k) : Nat)) (allS f t).length w19_0 rfl (by decide) (by simp) (by simp [hal]) (by omega) (by decide) (fun k s1 h1 s2 j hne => by rw [hne 6 (by decide) (by decide) (by decide)]; exact j) (by simp [widS]) ?_ ?_
  · rintro k s' h' hk ⟨rfl, j6⟩ hi hs hg
    have f20 : s' 20 = sv := (hs 20 (by decide)).trans (by simp)
    have hk' : k < (setsL f t).length + 1 := by omega
    have hcell : ∃ c, (pv :: ((setsL f t).map Enc.c).flatten)[k]? = some c ∧ evLen h' 1 c = some (.int .i64 ((allS f t)[k].length : Nat)) := by
      cases k with
      | zero =>
        refine ⟨pv, by simp, ?_⟩
        rw [m.pa.len]
        simp [allS, nums_len]
      | succ k =>
        refine ⟨sl ((setsL f t)[k]'(by omega)), ?_, by simp [allS]⟩
        rw [List.getElem?_cons_succ]
        have := flat_get Enc.len (setsL f t) k 0 (by omega) (by decide)
        simpa using this
    obtain ⟨c, hc1, hc2⟩ := hcell
    simp [hi, f20]
    rw [hsv]
    simp [evIdx_rf hk', hr, hc1, hc2, j6, evMM_max]
    rw [take_succ' hk, widS_snoc]
    exact ⟨hi, rfl⟩
  · rintro s' h' ⟨rfl, j6⟩ hs hg
    rw [List.take_length] at j6
    simp [j6]
theorem sets_small (hf : FitF f) {sc : List Int} {t : Tr} (h : Ok f sc t) : ∀ x ∈ setsL f t, x.length ≤ 1000 := by
  have v120 := hf.vars
  induction h with
  | @node sc a ts ha hu hl hr hs hb ih =>
    intro x hx
    have hal : a.toNat < f.code.length := by omega
    have hfn := hf.node _ (nodeAt_mem hal)
    rw [setsL] at hx
    rcases List.mem_append.1 hx with hx | hx
    · rw [setsC_eq] at hx
      obtain ⟨p, hp, hx⟩ := List.mem_flatMap.1 hx
      obtain ⟨k, hk, rfl⟩ := List.getElem_of_mem hp
      have hk1 : k < ts.length := by rw [List.length_zip] at hk; omega
      have hk2 : k < (edg (nodeAt f a)).length := by omega
      rw [List.getElem_zip] at hx
      rcases List.mem_append.1 hx with hx | hx
      · exact ih k hk1 hk2 x hx
      · rw [List.mem_singleton.1 hx]
        show (un (atL f ts[k]) (edg (nodeAt f a))[k].2).length ≤ 1000
        have h1 := un_len (atL f ts[k]) (edg (nodeAt f a))[k].2
        have h2 := (atL_nums (hs k hk1 hk2)).length
        have h3 := edg_fit hfn _ (List.getElem_mem hk2)
        omega
    · rw [List.mem_singleton.1 hx]
      have := (atL_nums (.node ha hu hl hr hs hb)).length
      omega
theorem allS_small (hf : FitF f) {t : Tr} (ht : treeS f = some t) : ∀ x ∈ allS f t, x.length ≤ 1000 := by
  obtain ⟨hok, _, _, _, hp⟩ := treeS_ok ht
  have v120 := hf.vars
  intro x hx
  rcases List.mem_cons.1 hx with rfl | hx
  · rw [nums_len]
    have := hp.2
    omega
  · exact sets_small hf hok x hx

/-- Two variables that interfere. -/
def meet (L : List (List Int)) (a b : Int) : Bool := !decide (a = b) && L.any fun l => decide (a ∈ l) && decide (b ∈ l)
theorem both_p (l : List Int) (a b : Int) (hl : l.length ≤ 1000000) : Pure T 37 [sl l, .pi [.int .i64 a], .pi [.int .i64 b]] (.bool (decide (a ∈ l) && decide (b ∈ l))) true := by
  refine ⟨c37, rfl, rfl, ?_⟩
  simp [c37, contains_r l a hl, contains_r l b hl]
  refine gdS_split (fun hc => ?_) (fun hc => ?_) <;> simp at hc
  · simp [hc, contains_r l a hl, contains_r l b hl]
  · simp [hc]

theorem anyF_p (L : List (List Int)) (f : Nat) (cs : List PV) (p : List Int → Bool) (hf : ∀ x ∈ L, Pure T f ([sl x] ++ cs) (.bool (p x)) true) (hfv : f < vb) (hc : cs.all (imm 11) = true) (hl : L.length < 9223372036854775807) :
    ∃ r : Int, (0 ≤ r ↔ L.any p = true) ∧ Pure T 55 [sl L, .fn f [] cs] (.int .i64 r) true := by
  have hc' : cs.all (imm 12) = true := List.all_eq_true.2 fun x hx => imm_mono 11 _ _ (by decide) (List.all_eq_true.1 hc x hx)
  have : ∃ v, (∃ r : Int, v = .int .i64 r ∧ (0 ≤ r ↔ L.any p = true)) ∧ Pure T 55 [sl L, .fn f [] cs] v true := by
    refine Pure_ex (c := c55) rfl rfl ?_
    have fin : ∀ (r : Int) (s1 : Fr) (h1 : AH), s1 4 = .int .i64 r → (0 ≤ r ↔ L.any p = true) → ∃ v, (∃ r : Int, v = .int .i64 r ∧ (0 ≤ r ↔ L.any p = true)) ∧ ∃ r0, resOf c55.res s1 h1 = some r0 ∧ snap h1 snapDepth r0 = some v ∧ (true = true → noImm h1 snapDepth r0 = true) := fun r s1 h1 e q =>
      ⟨_, ⟨r, rfl, q⟩, .int .i64 r, by simp [c55, e], by simp, fun _ => by simp⟩
    generalize hE : (fun (s1 : Fr) (h1 : AH) => ∃ v, (∃ r : Int, v = .int .i64 r ∧ (0 ≤ r ↔ L.any p = true)) ∧ ∃ r0, resOf c55.res s1 h1 = some r0 ∧ snap h1 snapDepth r0 = some v ∧ (true = true → noImm h1 snapDepth r0 = true)) = E
    replace fin : ∀ (r : Int) (s1 : Fr) (h1 : AH), s1 4 = .int .i64 r → (0 ≤ r ↔ L.any p = true) → E s1 h1 := fun r s1 h1 e q => by rw [← hE]; exact fin r s1 h1 e q
    clear hE
    simp [c55]
    refine WK_range tgrow (fun k s h => ∀ y ∈ L.take k, ¬ p y = true) L.length w55_0 rfl (by decide) (by simp) (by simp) hl (by decide) (fun _ _ _ _ j _ => j) (by simp) ?_ ?_
    · intro k s' h' hk hj hi hs hg
      have f0 : s' 0 = sl L := (hs 0 (by decide)).trans (by simp)
      have f1 : s' 1 = .fn f [] cs := (hs 1 (by decide)).trans (by simp)
      have hi2 : ∀ x : List Int, ([sl x] ++ cs).all (imm 12) = true := fun x => by
        rw [List.all_append, hc']
        have : imm 12 (sl x) = true := imm_mono _ _ _ (by decide) (imm_sl x)
        simp [this]
      simp [hi, f0, f1, evIdx_nat, rd1_ptr, hk, hfv]
      rw [show sl L[k] :: cs = [sl L[k]] ++ cs from rfl, callK_Pure (hf _ (List.getElem_mem hk)) (hi2 _)]
      simp
      refine condS_split (fun hc => ?_) (fun hc => ?_)
      · simp [hi]
        refine fin (k : Nat) _ _ ?_ ⟨fun _ => List.any_eq_true.2 ⟨_, List.getElem_mem hk, hc⟩, fun _ => by omega⟩
        simp [hi]
      · have := mem_take_succ hk hj (by simpa using hc)
        simpa [hi] using this
    · intro s' h' hj hs hg
      rw [List.take_length] at hj
      simp
      refine fin (-1) _ _ ?_ ⟨fun q => by omega, fun q => ?_⟩
      · simp
      obtain ⟨y, hy, hp⟩ := List.any_eq_true.1 q
      exact absurd hp (hj y hy)
  obtain ⟨v, ⟨r, rfl, q⟩, hP⟩ := this
  exact ⟨r, q, hP⟩
theorem anyC_p (L : List (List Int)) (f : Nat) (cs : List PV) (p : List Int → Bool) (hf : ∀ x ∈ L, Pure T f ([sl x] ++ cs) (.bool (p x)) true) (hfv : f < vb) (hc : cs.all (imm 11) = true) (hl : L.length < 9223372036854775807) :
    Pure T 36 [sl L, .fn f [] cs] (.bool (L.any p)) true := by
  obtain ⟨r, hr, hP⟩ := anyF_p L f cs p hf hfv hc hl
  refine ⟨c36, rfl, rfl, ?_⟩
  have e1 : allO (snap AH.zero 11) cs = some cs := allO_imm (fun v hv => snap_imm _ _ v hv) _ hc
  have e2 : cs.any (own 11) = false := by
    rw [List.any_eq_false]
    intro x hx
    rw [own_imm 11 x (List.all_eq_true.1 hc x hx)]
    simp
  simp [c36, e1, e2, pureK_eq hP (.inl rfl)]
  rw [Bool.eq_iff_iff]; simp [hr]

theorem inter_err (f : LFun) (hf : FitF f) (a b : Int) (hn : treeS f = none) : Pure T 20 [.agg (Enc.c f), .int .i64 a, .int .i64 b] (.tup [.bool false, .int .i64 3]) true := by
  refine ⟨c20, rfl, rfl, ?_⟩
  simp [c20]
  refine of_no f hf hn ?_
  simp
theorem inter_yes (f : LFun) (hf : FitF f) {a b : Int} {t : Tr} (ht : treeS f = some t) (ha : 0 ≤ a ∧ a < (f.vars.length : Int)) (hb : 0 ≤ b ∧ b < (f.vars.length : Int)) : Pure T 20 [.agg (Enc.c f), .int .i64 a, .int .i64 b] (.tup [.bool (meet (allS f t) a b), .int .i64 0]) true := by
  refine ⟨c20, rfl, rfl, ?_⟩
  obtain ⟨hok, _, hnp, hsz, _⟩ := treeS_ok ht
  have c80 := hf.code
  have hsl := sets_len (f := f) t
  simp [c20]
  refine of_yes f hf ht (fun h ix pv sv m => ?_)
  have a0 : ¬ a < 0 := by omega
  have b0 : ¬ b < 0 := by omega
  have a1 : ¬ (f.vars.length : Int) ≤ a := by omega
  have b1 : ¬ (f.vars.length : Int) ≤ b := by omega
  have hsn : snap h 12 sv = some (sl (allS f t)) := by
    have hp : snap h 11 pv = some (sl (nums f.params.toNat)) := m.pa.snap (by rw [nums_len]) (by decide)
    have e : allO (snap h 11) (pv :: ((setsL f t).map Enc.c).flatten) = some ((allS f t).map Enc.c).flatten := by
      have e2 : allO (snap h 11) ((setsL f t).map Enc.c).flatten = some ((setsL f t).map Enc.c).flatten := allO_flat (by decide) _
      rw [allO_cons, hp, e2]
      rfl
    rw [m.sa.snap_cells e]
    simp [sl, allS]
  have hbl : ∀ x ∈ allS f t, x.length ≤ 1000000 := fun x hx => by
    have := allS_small hf ht x hx
    omega
  have hcf := anyC_p (allS f t) 37 [.pi [.int .i64 a], .pi [.int .i64 b]] (fun l => decide (a ∈ l) && decide (b ∈ l)) (fun x hx => both_p x a b (hbl x hx)) (by decide) (by simp [imm]) (by simp [allS]; omega)
  have hcr := fun {o h d r κ s Q} => pureK_eq (o := o) (h := h) (d := d) (r := r) (κ := κ) (s := s) (Q := Q) hcf (.inl rfl)
  by_cases hab : a = b
  · subst hab
    simp [a0, a1, meet]
  · simp [a0, b0, a1, b1, hab, m.r2, evNilchk_pt, hsn, hcr, meet]
end
end Go.Proofs.Ytbnfcdjlbabddaa

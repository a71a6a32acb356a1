/- Comparison of images. -/
import Derived.Test.YtkaabknkabdfpaaGreatDoorS4
set_option linter.unusedVariables false
set_option linter.unusedSimpArgs false
namespace Go.Proofs.YtkaabknkabdfpaaGreatDoor
open Go.Ev

section
variable {o : Bool} {h : AH} {d : Option Nat} {r : List COper} {κ : List KF} {s : Fr} {Q : Fr → AH → Prop}
open Classical
theorem eqType_p (a b : List Int) (ha : a.length ≤ 10000000) : Pure T 110 [sl a, sl b] (.bool (eqv a b)) true := by
  refine ⟨c110, rfl, rfl, ?_⟩
  simp [c110]
  refine condS_split (fun hc => ?_) (fun hc => ?_) <;> simp at hc
  · have : a ≠ b := fun q => hc (by rw [q])
    simp [eqv_ne this]
  have hc : a.length = b.length := by omega
  simp
  refine WK_range tgrow (fun k s h => a.take k = b.take k) a.length w110_0 rfl (by decide) (by simp) (by simp) (by omega) (by decide) (fun _ _ _ _ j _ => j) (by simp) ?_ ?_
  · intro k s' h' hk hj hi hs hg
    have f0 : s' 0 = sl a := (hs 0 (by decide)).trans (by simp)
    have f1 : s' 1 = sl b := (hs 1 (by decide)).trans (by simp)
    have hk' : k < b.length := by omega
    simp [hi, f0, f1, evIdx_nat, rd1_ptr, rds_ptr, hk, hk']
    refine condS_split (fun hq => ?_) (fun hq => ?_) <;> simp at hq
    · have : a ≠ b := fun q => hq (by subst q; rfl)
      simp [eqv_ne this]
    · have := take_eq_succ hj hk hk' hq
      simp [hi, this]
  · intro s' h' hj hs hg
    have := eq_of_takes hj hc
    simp [this, eqv_refl]
theorem eqType_r (a b : List Int) (ha : a.length ≤ 10000000) : pureK T 110 (some [sl a, sl b]) o h d r κ s Q = WR T r κ (Fr.put s d (.bool (eqv a b))) h Q := pureK_eq (eqType_p a b ha) (.inl rfl)

theorem efCon_p {β : Type} (f : LCon → β) (a b : List LCon) (g : Nat) (hg : g < vb) (hf : ∀ x ∈ a, ∀ y ∈ b, Pure T g [.agg (Enc.c x), .agg (Enc.c y)] (.bool (eqv (f x) (f y))) true) (ha : a.length ≤ 1000000) :
    Pure T 52 [sl a, sl b, .fn g [] []] (.bool (eqv (a.map f) (b.map f))) true := by
  refine ⟨c52, rfl, rfl, ?_⟩
  simp [c52]
  refine condS_split (fun hc => ?_) (fun hc => ?_) <;> simp at hc
  · have : a.map f ≠ b.map f := fun q => hc (by have := congrArg List.length q; simp at this; omega)
    simp [eqv_ne this]
  have hc : a.length = b.length := by omega
  simp
  refine WK_range tgrow (fun k s h => (a.map f).take k = (b.map f).take k) a.length w52_0 rfl (by decide) (by simp) (by simp) (by omega) (by decide) (fun _ _ _ _ j _ => j) (by simp) ?_ ?_
  · intro k s' h' hk hj hi hs hg'
    have f15 : s' 15 = sl a := (hs 15 (by decide)).trans (by simp)
    have f1 : s' 1 = sl b := (hs 1 (by decide)).trans (by simp)
    have f2 : s' 2 = .fn g [] [] := (hs 2 (by decide)).trans (by simp)
    have hk' : k < b.length := by omega
    have hlo := hg'.low (by simp)
    have hlo2 : h'.lo ≤ h'.nx + 1 := by omega
    have hne : ¬ h'.nx = h'.nx + 1 := by omega
    simp [hi, f15, f1, f2, evIdx_nat, rds_ptr, hk, hk', hlo, hlo2, hne, hg]
    rw [callK_Pure (xs := [.agg [PV.str a[k].name, sl a[k].fields], .agg [PV.str b[k].name, sl b[k].fields]]) (hf a[k] (List.getElem_mem hk) b[k] (List.getElem_mem hk')) (by simp)]
    simp
    refine condS_split (fun hq => ?_) (fun hq => ?_) <;> simp at hq
    · have : a.map f ≠ b.map f := fun q => by
        have h6 : (a.map f)[k]'(by simpa using hk) = (b.map f)[k]'(by simpa using hk') := by simp only [q]
        rw [List.getElem_map, List.getElem_map] at h6
        rw [h6, eqv_refl] at hq; cases hq
      simp [eqv_ne this]
    · have := take_eq_succ hj (by simpa using hk) (by simpa using hk') (by simpa using eqv_iff.1 hq)
      simp [hi]
      simpa using this
  · intro s' h' hj hs hg'
    have : a.map f = b.map f := eq_of_takes (by simpa using hj) (by simpa using hc)
    simp [this, eqv_refl]

theorem efData_p {β : Type} (f : LData → β) (a b : List LData) (g : Nat) (hg : g < vb) (hf : ∀ x ∈ a, ∀ y ∈ b, Pure T g [.agg (Enc.c x), .agg (Enc.c y)] (.bool (eqv (f x) (f y))) true) (ha : a.length ≤ 1000000) :
    Pure T 50 [sl a, sl b, .fn g [] []] (.bool (eqv (a.map f) (b.map f))) true := by
  refine ⟨c50, rfl, rfl, ?_⟩
  simp [c50]
  refine condS_split (fun hc => ?_) (fun hc => ?_) <;> simp at hc
  · have : a.map f ≠ b.map f := fun q => hc (by have := congrArg List.length q; simp at this; omega)
    simp [eqv_ne this]
  have hc : a.length = b.length := by omega
  simp
  refine WK_range tgrow (fun k s h => (a.map f).take k = (b.map f).take k) a.length w50_0 rfl (by decide) (by simp) (by simp) (by omega) (by decide) (fun _ _ _ _ j _ => j) (by simp) ?_ ?_
  · intro k s' h' hk hj hi hs hg'
    have f15 : s' 15 = sl a := (hs 15 (by decide)).trans (by simp)
    have f1 : s' 1 = sl b := (hs 1 (by decide)).trans (by simp)
    have f2 : s' 2 = .fn g [] [] := (hs 2 (by decide)).trans (by simp)
    have hk' : k < b.length := by omega
    have hlo := hg'.low (by simp)
    have hlo2 : h'.lo ≤ h'.nx + 1 := by omega
    have hne : ¬ h'.nx = h'.nx + 1 := by omega
    simp [hi, f15, f1, f2, evIdx_nat, rds_ptr, hk, hk', hlo, hlo2, hne, hg]
    rw [callK_Pure (xs := [.agg [PV.str a[k].name, sl a[k].cons], .agg [PV.str b[k].name, sl b[k].cons]]) (hf a[k] (List.getElem_mem hk) b[k] (List.getElem_mem hk')) (by simp)]
    simp
    refine condS_split (fun hq => ?_) (fun hq => ?_) <;> simp at hq
    · have : a.map f ≠ b.map f := fun q => by
        have h6 : (a.map f)[k]'(by simpa using hk) = (b.map f)[k]'(by simpa using hk') := by simp only [q]
        rw [List.getElem_map, List.getElem_map] at h6
        rw [h6, eqv_refl] at hq; cases hq
      simp [eqv_ne this]
    · have := take_eq_succ hj (by simpa using hk) (by simpa using hk') (by simpa using eqv_iff.1 hq)
      simp [hi]
      simpa using this
  · intro s' h' hj hs hg'
    have : a.map f = b.map f := eq_of_takes (by simpa using hj) (by simpa using hc)
    simp [this, eqv_refl]


/-- The limits of a table. -/
def FitD (l : List LData) : Prop := l.length ≤ 1000000 ∧ ∀ x ∈ l, x.cons.length ≤ 1000000 ∧ ∀ c ∈ x.cons, c.fields.length ≤ 1000000

theorem sameCon_p (a b : LCon) (ha : a.fields.length ≤ 1000000) : Pure T 53 [.agg (Enc.c a), .agg (Enc.c b)] (.bool (eqv a b)) true := by
  refine ⟨c53, rfl, rfl, ?_⟩
  obtain ⟨a1, a2⟩ := a
  obtain ⟨b1, b2⟩ := b
  simp at ha
  simp [c53, eqType_r a2 b2 (by omega)]
  (repeat' ((first | refine gdS_split (fun hc => ?_) (fun hc => ?_) | refine condS_split (fun hc => ?_) (fun hc => ?_)) <;> (try simp at hc) <;> (try simp [hc, eqType_r a2 b2 (by omega)])))
  all_goals simp_all [eqv]

theorem efCon_r (a b : List LCon) (ha : a.length ≤ 1000000) (hf : ∀ x ∈ a, x.fields.length ≤ 1000000) : pureK T 52 (some [sl a, sl b, .fn 53 [] []]) o h d r κ s Q = WR T r κ (Fr.put s d (.bool (eqv a b))) h Q := by
  rw [← eqv_map_id a b]
  exact pureK_eq (efCon_p id a b _ (by decide) (fun x hx y _ => sameCon_p x y (hf x hx)) ha) (.inl rfl)

theorem sameData_p (a b : LData) (ha : a.cons.length ≤ 1000000 ∧ ∀ c ∈ a.cons, c.fields.length ≤ 1000000) : Pure T 51 [.agg (Enc.c a), .agg (Enc.c b)] (.bool (eqv a b)) true := by
  refine ⟨c51, rfl, rfl, ?_⟩
  obtain ⟨a1, a2⟩ := a
  obtain ⟨b1, b2⟩ := b
  simp at ha
  simp [c51, efCon_r a2 b2 ha.1 ha.2]
  (repeat' ((first | refine gdS_split (fun hc => ?_) (fun hc => ?_) | refine condS_split (fun hc => ?_) (fun hc => ?_)) <;> (try simp at hc) <;> (try simp [hc, efCon_r a2 b2 ha.1 ha.2])))
  all_goals simp_all [eqv]

theorem efData_r (a b : List LData) (ha : FitD a) : pureK T 50 (some [sl a, sl b, .fn 51 [] []]) o h d r κ s Q = WR T r κ (Fr.put s d (.bool (eqv a b))) h Q := by
  rw [← eqv_map_id a b]
  exact pureK_eq (efData_p id a b _ (by decide) (fun x hx y _ => sameData_p x y (ha.2 x hx)) ha.1) (.inl rfl)

theorem efProc_r (a b : List LProc) (hl : a.length ≤ 1000000) (ha : ∀ x ∈ a, FitC x) (hb : ∀ x ∈ b, FitC x) : pureK T 54 (some [sl a, sl b, .fn 55 [] []]) o h d r κ s Q = WR T r κ (Fr.put s d (.bool (eqv (a.map normP) (b.map normP)))) h Q :=
  pureK_eq (efProc_p normP a b _ (by decide) (fun x hx y hy => sameProcC_p x y (ha x hx) (hb y hy)) hl) (.inl rfl)

/-- The limits of an image. -/
def FitM (i : LImage) : Prop := FitD i.datas ∧ i.procs.length ≤ 1000000 ∧ ∀ x ∈ i.procs, FitC x
/-- What is compared of an image. -/
noncomputable def normM (i : LImage) := (i.datas, i.procs.map normP)

theorem sameM_p (a b : LImage) (ha : FitM a) (hb : FitM b) : Pure T 18 [.agg (Enc.c a), .agg (Enc.c b)] (.bool (eqv (normM a) (normM b))) true := by
  refine ⟨c18, rfl, rfl, ?_⟩
  obtain ⟨a1, a2⟩ := a
  obtain ⟨b1, b2⟩ := b
  obtain ⟨h1, h2, h3⟩ := ha
  obtain ⟨k1, k2, k3⟩ := hb
  simp at h1 h2 h3 k1 k2 k3
  simp [c18, efData_r a1 b1 h1]
  (repeat' ((first | refine gdS_split (fun hc => ?_) (fun hc => ?_) | refine condS_split (fun hc => ?_) (fun hc => ?_)) <;> (try simp at hc) <;> (try simp [hc, efProc_r a2 b2 h2 h3 k3])))
  all_goals simp_all [eqv, normM]
theorem sameM_r (a b : LImage) (ha : FitM a) (hb : FitM b) : pureK T 18 (some [.agg [sl a.datas, sl a.procs], .agg [sl b.datas, sl b.procs]]) o h d r κ s Q = WR T r κ (Fr.put s d (.bool (eqv (normM a) (normM b)))) h Q := pureK_eq (sameM_p a b ha hb) (.inl rfl)
end
end Go.Proofs.YtkaabknkabdfpaaGreatDoor

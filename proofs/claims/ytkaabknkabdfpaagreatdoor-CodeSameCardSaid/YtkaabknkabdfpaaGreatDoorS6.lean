/- Comparison of images: the reference's. -/
import Derived.Test.YtkaabknkabdfpaaGreatDoorS5
set_option linter.unusedVariables false
set_option linter.unusedSimpArgs false
namespace Go.Proofs.YtkaabknkabdfpaaGreatDoor
open Go.Ev

section
variable {o : Bool} {h : AH} {d : Option Nat} {r : List COper} {κ : List KF} {s : Fr} {Q : Fr → AH → Prop}
open Classical

@[simp] theorem blkOf_ptr {α : Type} [Enc α] {l : List α} {k off : Nat} : blkOf (ptr l k off) = none := rfl

theorem con_ext {x y : LCon} (h1 : x.name = y.name) (h2 : x.fields = y.fields) : x = y := by cases x; cases y; simp_all
theorem data_ext {x y : LData} (h1 : x.name = y.name) (h2 : x.cons = y.cons) : x = y := by cases x; cases y; simp_all

/-- The fields of two constructors. -/
theorem sd_fields (x y : LCon) (hx : x.fields.length ≤ 1000000) (hl : x.fields.length = y.fields.length) {i j : Nat} (f7 : s 7 = .pt i 0) (f8 : s 8 = .pt j 0) (f9 : s 9 = .int .i64 0) (r7 : h.row i = some (Enc.c x)) (r8 : h.row j = some (Enc.c y))
    (no : x.fields ≠ y.fields → ∀ s' h', s' 4 = .bool false → Q s' h') (yes : x.fields = y.fields → ∀ s' h', (∀ t, t ∉ w46_2 → s' t = s t) → Grow h h' → WK T .skip κ s' h' Q) : WK T (.loop c46_2) (.block 4 :: κ) s h Q := by
  refine WK_loop tgrow (fun k s h => s 9 = .int .i64 (k : Nat) ∧ x.fields.take k = y.fields.take k ∧ h.row i = some (Enc.c x) ∧ h.row j = some (Enc.c y)) x.fields.length w46_2 (by decide) (by simp [f9, r7, r8]) ?_
  rintro k s' h' hk ⟨e9, hj, r7, r8⟩ hs hg
  have g7 : s' 7 = .pt i 0 := (hs 7 (by decide)).trans f7
  have g8 : s' 8 = .pt j 0 := (hs 8 (by decide)).trans f8
  simp [c46_2, e9, g7, g8, r7, r8]
  refine condS_split (fun hkl => ?_) (fun hkl => ?_) <;> simp at hkl
  · have hkl' : k < y.fields.length := by omega
    have hk2 : k < 9223372036854775807 := by omega
    simp [e9, g7, g8, r7, r8, evIdx_nat, rd1_ptr, hkl, hkl']
    refine condS_split (fun hq => ?_) (fun hq => ?_) <;> simp at hq
    · have : x.fields ≠ y.fields := fun q => hq (by simp only [q])
      simp
      exact no this _ _ (by simp)
    · have := take_eq_succ hj hkl hkl' hq
      simp [e9, g7, g8, r7, r8, hk2, hkl, this]
  · have hkn : k = x.fields.length := by omega
    subst hkn
    have := eq_of_takes hj hl
    simp
    refine yes this _ _ (fun t ht => ?_) hg
    have := hs t ht
    simp [w46_2] at ht
    simp [Fr.put, Fr.know, *]

set_option maxHeartbeats 1000000 in
/-- The constructors of two data types. -/
theorem sd_cons (a b : List LData) (k : Nat) (hk : k < a.length) (hk' : k < b.length) (h1 : a[k].cons.length ≤ 1000000) (h2 : ∀ c ∈ a[k].cons, c.fields.length ≤ 1000000) (hl : a[k].cons.length = b[k].cons.length)
    (f0 : s 0 = sl a) (f1 : s 1 = sl b) (f5 : s 5 = .int .i64 (k : Nat)) (f6 : s 6 = .int .i64 0) (hlo : h.lo ≤ h.nx)
    (no : a[k].cons ≠ b[k].cons → ∀ s' h', s' 4 = .bool false → Q s' h') (yes : a[k].cons = b[k].cons → ∀ s' h', (∀ t, t ∉ w46_1 → s' t = s t) → Grow h h' → WK T .skip κ s' h' Q) : WK T (.loop c46_1) (.block 2 :: κ) s h Q := by
  refine WK_loop tgrow (fun j s h => s 6 = .int .i64 (j : Nat) ∧ a[k].cons.take j = b[k].cons.take j) a[k].cons.length w46_1 (by decide) (by simp [f6]) ?_
  rintro j s' h' hj ⟨e6, hjj⟩ hs hg
  have g0 : s' 0 = sl a := (hs 0 (by decide)).trans f0
  have g1 : s' 1 = sl b := (hs 1 (by decide)).trans f1
  have g5 : s' 5 = .int .i64 (k : Nat) := (hs 5 (by decide)).trans f5
  simp [c46_1, e6, g0, g1, g5, evIdx_nat, rd1_ptr, hk, hk']
  refine condS_split (fun hjl => ?_) (fun hjl => ?_) <;> simp at hjl
  case refine_2 =>
    have hjn : j = a[k].cons.length := by omega
    have hcc := eq_of_takes (by rw [← hjn]; exact hjj) hl
    simp
    refine yes hcc _ _ (fun t ht => ?_) hg
    have := hs t ht
    simp [w46_1] at ht
    simp [Fr.put, Fr.know, *]
  have hjl' : j < b[k].cons.length := by omega
  have hj2 : j < 9223372036854775807 := by omega
  have l3 := h2 _ (List.getElem_mem hjl)
  have nf : a[k].cons[j] ≠ b[k].cons[j] → a[k].cons ≠ b[k].cons := fun q e => q (by simp only [e])
  have hlo' := hg.low hlo
  have hlo2 : h'.lo ≤ h'.nx + 1 := by omega
  have hne : ¬ h'.nx = h'.nx + 1 := by omega
  simp [e6, g0, g1, g5, evIdx_nat, rd1_ptr, rds_ptr, hk, hk', hjl, hjl', hlo', hlo2, hne]
  refine gdS_split (fun hn => ?_) (fun hn => ?_) <;> simp at hn
  case refine_2 =>
    simp
    exact no (nf fun q => hn (by rw [q])) _ _ (by simp)
  simp [e6, g0, g1, g5, evIdx_nat, rd1_ptr, rds_ptr, hk, hk', hjl, hjl', hlo', hlo2, hne]
  refine condS_split (fun hm => ?_) (fun hm => ?_) <;> simp at hm
  · simp
    exact no (nf fun q => hm (by rw [q])) _ _ (by simp)
  have hm : a[k].cons[j].fields.length = b[k].cons[j].fields.length := by omega
  simp
  refine sd_fields a[k].cons[j] b[k].cons[j] l3 hm (i := h'.nx) (j := h'.nx + 1) (by simp) (by simp) (by simp) (by simp [hne]) (by simp) (fun q s2 h2 e4 => no (nf fun e => q (by rw [e])) _ _ e4) (fun q s2 h2 hs2 hg2 => ?_)
  have z6 : s2 6 = .int .i64 (j : Nat) := (hs2 6 (by decide)).trans (by simp [e6])
  have heq : a[k].cons[j] = b[k].cons[j] := con_ext hn q
  have := take_eq_succ hjj hjl hjl' heq
  simp [z6, hj2, hjl, this]

set_option maxHeartbeats 1000000 in
theorem sameDatas_p (a b : List LData) (ha : FitD a) : Pure T 46 [sl a, sl b] (.bool (eqv a b)) true := by
  refine ⟨c46, rfl, rfl, ?_⟩
  obtain ⟨a1, a2⟩ := ha
  simp [c46]
  refine condS_split (fun hc => ?_) (fun hc => ?_) <;> simp at hc
  · have : a ≠ b := fun q => hc (by rw [q])
    simp [eqv_ne this]
  have hc : a.length = b.length := by omega
  simp
  refine WK_loop tgrow (fun k s h => s 5 = .int .i64 (k : Nat) ∧ a.take k = b.take k) a.length w46_0 (by decide) (by simp) ?_
  rintro k s' h' hk ⟨e5, hj⟩ hs hg
  have f0 : s' 0 = sl a := (hs 0 (by decide)).trans (by simp)
  have f1 : s' 1 = sl b := (hs 1 (by decide)).trans (by simp)
  simp [c46_0, e5, f0, f1]
  refine condS_split (fun hkl => ?_) (fun hkl => ?_) <;> simp at hkl
  case refine_2 =>
    have hkn : k = a.length := by omega
    subst hkn
    have := eq_of_takes hj hc
    simp [this, eqv_refl]
  have hkl' : k < b.length := by omega
  have hk2 : k < 9223372036854775807 := by omega
  obtain ⟨l1, l2⟩ := a2 _ (List.getElem_mem hkl)
  have nf : a[k] ≠ b[k] → eqv a b = false := fun q => eqv_ne fun e => q (by subst e; rfl)
  have hlo := hg.low (by simp)
  simp [e5, f0, f1, evIdx_nat, rd1_ptr, rds_ptr, hkl, hkl']
  refine gdS_split (fun hn => ?_) (fun hn => ?_) <;> simp at hn
  case refine_2 =>
    have := nf fun q => hn (by rw [q])
    simp [this]
  simp [e5, f0, f1, evIdx_nat, rd1_ptr, rds_ptr, hkl, hkl', hn]
  refine condS_split (fun hm => ?_) (fun hm => ?_) <;> simp at hm
  · have := nf fun q => hm (by rw [q])
    simp [this]
  have hm : a[k].cons.length = b[k].cons.length := by omega
  simp
  refine sd_cons a b k hkl hkl' l1 l2 hm (by simp [f0]) (by simp [f1]) (by simp [e5]) (by simp) hlo (fun q s2 h2 e4 => ?_) (fun q s2 h2 hs2 hg2 => ?_)
  · have := nf fun e => q (by rw [e])
    simp [e4, this]
  · have z5 : s2 5 = .int .i64 (k : Nat) := (hs2 5 (by decide)).trans (by simp [e5])
    have := take_eq_succ hj hkl hkl' (data_ext hn q)
    simp [z5, hk2, hkl, this]
theorem sameDatas_r (a b : List LData) (ha : FitD a) : pureK T 46 (some [sl a, sl b]) o h d r κ s Q = WR T r κ (Fr.put s d (.bool (eqv a b))) h Q := pureK_eq (sameDatas_p a b ha) (.inl rfl)

set_option maxHeartbeats 1000000 in
theorem sameMR_p (a b : LImage) (ha : FitM a) (hb : FitM b) : Pure T 15 [.agg (Enc.c a), .agg (Enc.c b)] (.bool (eqv (normM a) (normM b))) true := by
  refine ⟨c15, rfl, rfl, ?_⟩
  obtain ⟨a1, a2, a3⟩ := ha
  obtain ⟨b1, b2, b3⟩ := hb
  have nf : (a.datas ≠ b.datas ∨ a.procs.map normP ≠ b.procs.map normP) → eqv (normM a) (normM b) = false := fun q => eqv_ne fun e => by
    simp only [normM, Prod.mk.injEq] at e
    rcases q with q | q
    · exact q e.1
    · exact q e.2
  simp [c15, sameDatas_r a.datas b.datas a1]
  refine gdS_split (fun hd => ?_) (fun hd => ?_) <;> simp at hd
  case refine_2 =>
    have := nf (.inl fun e => by rw [e, eqv_refl] at hd; cases hd)
    simp [this]
  simp [sameDatas_r a.datas b.datas a1, hd]
  refine condS_split (fun hc => ?_) (fun hc => ?_) <;> simp at hc
  · have := nf (.inr fun q => hc (by have := congrArg List.length q; simp at this; omega))
    simp [this]
  have hc : a.procs.length = b.procs.length := by omega
  simp
  refine WK_loop tgrow (fun k s h => s 5 = .int .i64 (k : Nat) ∧ (a.procs.map normP).take k = (b.procs.map normP).take k) a.procs.length w15_0 (by decide) (by simp) ?_
  rintro k s' h' hk ⟨e5, hj⟩ hs hg
  have f2 : s' 2 = .pi (Enc.c a) := (hs 2 (by decide)).trans (by simp)
  have f3 : s' 3 = .pi (Enc.c b) := (hs 3 (by decide)).trans (by simp)
  simp [c15_0, e5, f2, f3]
  refine condS_split (fun hkl => ?_) (fun hkl => ?_) <;> simp at hkl
  · have hkl' : k < b.procs.length := by omega
    have hk2 : k < 9223372036854775807 := by omega
    have ma := a3 _ (List.getElem_mem hkl)
    have mb := b3 _ (List.getElem_mem hkl')
    simp [e5, f2, f3, evIdx_nat, rds_ptr, hkl, hkl', sameProc_r a.procs[k] b.procs[k] ma mb]
    refine condS_split (fun hq => ?_) (fun hq => ?_) <;> simp at hq
    · have : eqv (normM a) (normM b) = false := nf (.inr fun e => by
        have h6 : (a.procs.map normP)[k]'(by simpa using hkl) = (b.procs.map normP)[k]'(by simpa using hkl') := by simp only [e]
        rw [List.getElem_map, List.getElem_map] at h6
        rw [h6, eqv_refl] at hq; cases hq)
      simp [this]
    · have := take_eq_succ hj (by simpa using hkl) (by simpa using hkl') (by simpa using eqv_iff.1 hq)
      simp [e5, hk2, hkl]
      simpa using this
  have hkn : k = a.procs.length := by omega
  subst hkn
  have eb : a.procs.map normP = b.procs.map normP := eq_of_takes (by simpa using hj) (by simpa using hc)
  have : eqv (normM a) (normM b) = true := by rw [eqv_iff, normM, normM, eb, eqv_iff.1 hd]
  simp [this]
theorem sameMR_r (a b : LImage) (ha : FitM a) (hb : FitM b) : pureK T 15 (some [.agg [sl a.datas, sl a.procs], .agg [sl b.datas, sl b.procs]]) o h d r κ s Q = WR T r κ (Fr.put s d (.bool (eqv (normM a) (normM b)))) h Q := pureK_eq (sameMR_p a b ha hb) (.inl rfl)
end
end Go.Proofs.YtkaabknkabdfpaaGreatDoor

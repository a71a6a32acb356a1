/- Comparison of instructions, registers, blocks: the program's. -/
import Derived.Test.YtkaabknkabdfpaaGreatDoorS2
set_option linter.unusedVariables false
set_option linter.unusedSimpArgs false
namespace Go.Proofs.YtkaabknkabdfpaaGreatDoor
open Go.Ev

section
variable {o : Bool} {h : AH} {d : Option Nat} {r : List COper} {κ : List KF} {s : Fr} {Q : Fr → AH → Prop}
open Classical
theorem equal_r (a b : List Int) (ha : a.length ≤ 100000) : pureK T 237 (some [sl a, sl b]) o h d r κ s Q = WR T r κ (Fr.put s d (.bool (decide (a = b)))) h Q := pureK_eq (equal_p a b (by omega)) (.inl rfl)

theorem efInstr_p {β : Type} (f : LInstr → β) (a b : List LInstr) (g : Nat) (hg : g < vb) (hf : ∀ x ∈ a, ∀ y ∈ b, Pure T g [.agg (Enc.c x), .agg (Enc.c y)] (.bool (eqv (f x) (f y))) true) (ha : a.length ≤ 1000000) :
    Pure T 182 [sl a, sl b, .fn g [] []] (.bool (eqv (a.map f) (b.map f))) true := by
  refine ⟨c182, rfl, rfl, ?_⟩
  simp [c182]
  refine condS_split (fun hc => ?_) (fun hc => ?_) <;> simp at hc
  · have : a.map f ≠ b.map f := fun q => hc (by have := congrArg List.length q; simp at this; omega)
    simp [eqv_ne this]
  have hc : a.length = b.length := by omega
  simp
  refine WK_range tgrow (fun k s h => (a.map f).take k = (b.map f).take k) a.length w182_0 rfl (by decide) (by simp) (by simp) (by omega) (by decide) (fun _ _ _ _ j _ => j) (by simp) ?_ ?_
  · intro k s' h' hk hj hi hs hg'
    have f15 : s' 15 = sl a := (hs 15 (by decide)).trans (by simp)
    have f1 : s' 1 = sl b := (hs 1 (by decide)).trans (by simp)
    have f2 : s' 2 = .fn g [] [] := (hs 2 (by decide)).trans (by simp)
    have hk' : k < b.length := by omega
    have hlo := hg'.low (by simp)
    have hlo2 : h'.lo ≤ h'.nx + 1 := by omega
    have hne : ¬ h'.nx = h'.nx + 1 := by omega
    simp [hi, f15, f1, f2, evIdx_nat, rds_ptr, hk, hk', hlo, hlo2, hne, hg]
    rw [callK_Pure (xs := [.agg [PV.int .i64 a[k].op, PV.int .i64 a[k].to, sl a[k].args, sl a[k].more, PV.int .i64 a[k].con, PV.int .i64 a[k].num, PV.int .i64 a[k].fn, sl a[k].jump], .agg [PV.int .i64 b[k].op, PV.int .i64 b[k].to, sl b[k].args, sl b[k].more, PV.int .i64 b[k].con, PV.int .i64 b[k].num, PV.int .i64 b[k].fn, sl b[k].jump]]) (hf a[k] (List.getElem_mem hk) b[k] (List.getElem_mem hk')) (by simp)]
    simp
    refine condS_split (fun hq => ?_) (fun hq => ?_) <;> simp at hq
    · have : a.map f ≠ b.map f := fun q => by
        have h6 : (a.map f)[k]'(by simpa using hk) = (b.map f)[k]'(by simpa using hk') := by simp only [q]
        rw [List.getElem_map, List.getElem_map] at h6
        rw [h6, eqv_refl] at hq; cases hq
      simp [eqv_ne this]
    · have := take_eq_succ hj (by simpa using hk) (by simpa using hk') (by simpa using eqv_iff.1 hq)
      simp [hi]
      simpa using this
  · intro s' h' hj hs hg'
    have : a.map f = b.map f := eq_of_takes (by simpa using hj) (by simpa using hc)
    simp [this, eqv_refl]

theorem efReg_p {β : Type} (f : LReg → β) (a b : List LReg) (g : Nat) (hg : g < vb) (hf : ∀ x ∈ a, ∀ y ∈ b, Pure T g [.agg (Enc.c x), .agg (Enc.c y)] (.bool (eqv (f x) (f y))) true) (ha : a.length ≤ 1000000) :
    Pure T 180 [sl a, sl b, .fn g [] []] (.bool (eqv (a.map f) (b.map f))) true := by
  refine ⟨c180, rfl, rfl, ?_⟩
  simp [c180]
  refine condS_split (fun hc => ?_) (fun hc => ?_) <;> simp at hc
  · have : a.map f ≠ b.map f := fun q => hc (by have := congrArg List.length q; simp at this; omega)
    simp [eqv_ne this]
  have hc : a.length = b.length := by omega
  simp
  refine WK_range tgrow (fun k s h => (a.map f).take k = (b.map f).take k) a.length w180_0 rfl (by decide) (by simp) (by simp) (by omega) (by decide) (fun _ _ _ _ j _ => j) (by simp) ?_ ?_
  · intro k s' h' hk hj hi hs hg'
    have f15 : s' 15 = sl a := (hs 15 (by decide)).trans (by simp)
    have f1 : s' 1 = sl b := (hs 1 (by decide)).trans (by simp)
    have f2 : s' 2 = .fn g [] [] := (hs 2 (by decide)).trans (by simp)
    have hk' : k < b.length := by omega
    have hlo := hg'.low (by simp)
    have hlo2 : h'.lo ≤ h'.nx + 1 := by omega
    have hne : ¬ h'.nx = h'.nx + 1 := by omega
    simp [hi, f15, f1, f2, evIdx_nat, rds_ptr, hk, hk', hlo, hlo2, hne, hg]
    rw [callK_Pure (xs := [.agg [PV.bool a[k].live, PV.int .i64 a[k].type, PV.bool a[k].read, sl a[k].pot], .agg [PV.bool b[k].live, PV.int .i64 b[k].type, PV.bool b[k].read, sl b[k].pot]]) (hf a[k] (List.getElem_mem hk) b[k] (List.getElem_mem hk')) (by simp)]
    simp
    refine condS_split (fun hq => ?_) (fun hq => ?_) <;> simp at hq
    · have : a.map f ≠ b.map f := fun q => by
        have h6 : (a.map f)[k]'(by simpa using hk) = (b.map f)[k]'(by simpa using hk') := by simp only [q]
        rw [List.getElem_map, List.getElem_map] at h6
        rw [h6, eqv_refl] at hq; cases hq
      simp [eqv_ne this]
    · have := take_eq_succ hj (by simpa using hk) (by simpa using hk') (by simpa using eqv_iff.1 hq)
      simp [hi]
      simpa using this
  · intro s' h' hj hs hg'
    have : a.map f = b.map f := eq_of_takes (by simpa using hj) (by simpa using hc)
    simp [this, eqv_refl]

theorem efBlock_p {β : Type} (f : LBlock → β) (a b : List LBlock) (g : Nat) (hg : g < vb) (hf : ∀ x ∈ a, ∀ y ∈ b, Pure T g [.agg (Enc.c x), .agg (Enc.c y)] (.bool (eqv (f x) (f y))) true) (ha : a.length ≤ 1000000) :
    Pure T 114 [sl a, sl b, .fn g [] []] (.bool (eqv (a.map f) (b.map f))) true := by
  refine ⟨c114, rfl, rfl, ?_⟩
  simp [c114]
  refine condS_split (fun hc => ?_) (fun hc => ?_) <;> simp at hc
  · have : a.map f ≠ b.map f := fun q => hc (by have := congrArg List.length q; simp at this; omega)
    simp [eqv_ne this]
  have hc : a.length = b.length := by omega
  simp
  refine WK_range tgrow (fun k s h => (a.map f).take k = (b.map f).take k) a.length w114_0 rfl (by decide) (by simp) (by simp) (by omega) (by decide) (fun _ _ _ _ j _ => j) (by simp) ?_ ?_
  · intro k s' h' hk hj hi hs hg'
    have f15 : s' 15 = sl a := (hs 15 (by decide)).trans (by simp)
    have f1 : s' 1 = sl b := (hs 1 (by decide)).trans (by simp)
    have f2 : s' 2 = .fn g [] [] := (hs 2 (by decide)).trans (by simp)
    have hk' : k < b.length := by omega
    have hlo := hg'.low (by simp)
    have hlo2 : h'.lo ≤ h'.nx + 1 := by omega
    have hne : ¬ h'.nx = h'.nx + 1 := by omega
    simp [hi, f15, f1, f2, evIdx_nat, rds_ptr, hk, hk', hlo, hlo2, hne, hg]
    rw [callK_Pure (xs := [.agg [sl a[k].regs, PV.str a[k].free, sl a[k].code], .agg [sl b[k].regs, PV.str b[k].free, sl b[k].code]]) (hf a[k] (List.getElem_mem hk) b[k] (List.getElem_mem hk')) (by simp)]
    simp
    refine condS_split (fun hq => ?_) (fun hq => ?_) <;> simp at hq
    · have : a.map f ≠ b.map f := fun q => by
        have h6 : (a.map f)[k]'(by simpa using hk) = (b.map f)[k]'(by simpa using hk') := by simp only [q]
        rw [List.getElem_map, List.getElem_map] at h6
        rw [h6, eqv_refl] at hq; cases hq
      simp [eqv_ne this]
    · have := take_eq_succ hj (by simpa using hk) (by simpa using hk') (by simpa using eqv_iff.1 hq)
      simp [hi]
      simpa using this
  · intro s' h' hj hs hg'
    have : a.map f = b.map f := eq_of_takes (by simpa using hj) (by simpa using hc)
    simp [this, eqv_refl]

theorem efProc_p {β : Type} (f : LProc → β) (a b : List LProc) (g : Nat) (hg : g < vb) (hf : ∀ x ∈ a, ∀ y ∈ b, Pure T g [.agg (Enc.c x), .agg (Enc.c y)] (.bool (eqv (f x) (f y))) true) (ha : a.length ≤ 1000000) :
    Pure T 54 [sl a, sl b, .fn g [] []] (.bool (eqv (a.map f) (b.map f))) true := by
  refine ⟨c54, rfl, rfl, ?_⟩
  simp [c54]
  refine condS_split (fun hc => ?_) (fun hc => ?_) <;> simp at hc
  · have : a.map f ≠ b.map f := fun q => hc (by have := congrArg List.length q; simp at this; omega)
    simp [eqv_ne this]
  have hc : a.length = b.length := by omega
  simp
  refine WK_range tgrow (fun k s h => (a.map f).take k = (b.map f).take k) a.length w54_0 rfl (by decide) (by simp) (by simp) (by omega) (by decide) (fun _ _ _ _ j _ => j) (by simp) ?_ ?_
  · intro k s' h' hk hj hi hs hg'
    have f15 : s' 15 = sl a := (hs 15 (by decide)).trans (by simp)
    have f1 : s' 1 = sl b := (hs 1 (by decide)).trans (by simp)
    have f2 : s' 2 = .fn g [] [] := (hs 2 (by decide)).trans (by simp)
    have hk' : k < b.length := by omega
    have hlo := hg'.low (by simp)
    have hlo2 : h'.lo ≤ h'.nx + 1 := by omega
    have hne : ¬ h'.nx = h'.nx + 1 := by omega
    simp [hi, f15, f1, f2, evIdx_nat, rds_ptr, hk, hk', hlo, hlo2, hne, hg]
    rw [callK_Pure (xs := [.agg [PV.str a[k].name, sl a[k].params, PV.int .i64 a[k].result, sl a[k].sig.params, PV.str a[k].sig.base, sl a[k].sig.result, PV.str a[k].sig.rest, sl a[k].blocks, PV.bool a[k].extern], .agg [PV.str b[k].name, sl b[k].params, PV.int .i64 b[k].result, sl b[k].sig.params, PV.str b[k].sig.base, sl b[k].sig.result, PV.str b[k].sig.rest, sl b[k].blocks, PV.bool b[k].extern]]) (hf a[k] (List.getElem_mem hk) b[k] (List.getElem_mem hk')) (by simp)]
    simp
    refine condS_split (fun hq => ?_) (fun hq => ?_) <;> simp at hq
    · have : a.map f ≠ b.map f := fun q => by
        have h6 : (a.map f)[k]'(by simpa using hk) = (b.map f)[k]'(by simpa using hk') := by simp only [q]
        rw [List.getElem_map, List.getElem_map] at h6
        rw [h6, eqv_refl] at hq; cases hq
      simp [eqv_ne this]
    · have := take_eq_succ hj (by simpa using hk) (by simpa using hk') (by simpa using eqv_iff.1 hq)
      simp [hi]
      simpa using this
  · intro s' h' hj hs hg'
    have : a.map f = b.map f := eq_of_takes (by simpa using hj) (by simpa using hc)
    simp [this, eqv_refl]

theorem eqStr_p (a b : List ByteArray) (ha : a.length ≤ 10000000) : Pure T 112 [sl a, sl b] (.bool (eqv a b)) true := by
  refine ⟨c112, rfl, rfl, ?_⟩
  simp [c112]
  refine condS_split (fun hc => ?_) (fun hc => ?_) <;> simp at hc
  · have : a ≠ b := fun q => hc (by rw [q])
    simp [eqv_ne this]
  have hc : a.length = b.length := by omega
  simp
  refine WK_range tgrow (fun k s h => a.take k = b.take k) a.length w112_0 rfl (by decide) (by simp) (by simp) (by omega) (by decide) (fun _ _ _ _ j _ => j) (by simp) ?_ ?_
  · intro k s' h' hk hj hi hs hg
    have f0 : s' 0 = sl a := (hs 0 (by decide)).trans (by simp)
    have f1 : s' 1 = sl b := (hs 1 (by decide)).trans (by simp)
    have hk' : k < b.length := by omega
    simp [hi, f0, f1, evIdx_nat, rd1_ptr, rds_ptr, hk, hk']
    refine condS_split (fun hq => ?_) (fun hq => ?_) <;> simp at hq
    · have : a ≠ b := fun q => hq (by subst q; rfl)
      simp [eqv_ne this]
    · have := take_eq_succ hj hk hk' hq
      simp [hi, this]
  · intro s' h' hj hs hg
    have := eq_of_takes hj hc
    simp [this, eqv_refl]
theorem eqStr_r (a b : List ByteArray) (ha : a.length ≤ 10000000) : pureK T 112 (some [sl a, sl b]) o h d r κ s Q = WR T r κ (Fr.put s d (.bool (eqv a b))) h Q := pureK_eq (eqStr_p a b ha) (.inl rfl)

theorem eqVar_p (a b : List LVar) (ha : a.length ≤ 10000000) : Pure T 111 [sl a, sl b] (.bool (eqv a b)) true := by
  refine ⟨c111, rfl, rfl, ?_⟩
  simp [c111]
  refine condS_split (fun hc => ?_) (fun hc => ?_) <;> simp at hc
  · have : a ≠ b := fun q => hc (by rw [q])
    simp [eqv_ne this]
  have hc : a.length = b.length := by omega
  simp
  refine WK_range tgrow (fun k s h => a.take k = b.take k) a.length w111_0 rfl (by decide) (by simp) (by simp) (by omega) (by decide) (fun _ _ _ _ j _ => j) (by simp) ?_ ?_
  · intro k s' h' hk hj hi hs hg
    have f0 : s' 0 = sl a := (hs 0 (by decide)).trans (by simp)
    have f1 : s' 1 = sl b := (hs 1 (by decide)).trans (by simp)
    have hk' : k < b.length := by omega
    simp [hi, f0, f1, evIdx_nat, rd1_ptr, rds_ptr, hk, hk']
    by_cases hq : a[k] = b[k]
    · have := take_eq_succ hj hk hk' hq
      have h1 : a[k].type = b[k].type := by rw [hq]
      have h2 : a[k].read = b[k].read := by rw [hq]
      simp [h1, h2, hi, this]
    · have hn : a[k].type = b[k].type → ¬ a[k].read = b[k].read := fun e1 e2 => by
        apply hq
        generalize a[k] = x at *
        generalize b[k] = y at *
        cases x; cases y
        simp only at e1 e2
        rw [e1, e2]
      have : a ≠ b := fun q => hq (by subst q; rfl)
      by_cases h1 : a[k].type = b[k].type
      · simp [h1, hn h1, eqv_ne this]
      · simp [h1, eqv_ne this]
  · intro s' h' hj hs hg
    have := eq_of_takes hj hc
    simp [this, eqv_refl]
theorem eqVar_r (a b : List LVar) (ha : a.length ≤ 10000000) : pureK T 111 (some [sl a, sl b]) o h d r κ s Q = WR T r κ (Fr.put s d (.bool (eqv a b))) h Q := pureK_eq (eqVar_p a b ha) (.inl rfl)

theorem efStrs_p (a b : List (List ByteArray)) (ha : a.length ≤ 10000000) (ha2 : ∀ l ∈ a, l.length ≤ 10000000) :
    Pure T 113 [sl a, sl b, .fn 112 [] []] (.bool (eqv a b)) true := by
  refine ⟨c113, rfl, rfl, ?_⟩
  simp [c113]
  refine condS_split (fun hc => ?_) (fun hc => ?_) <;> simp at hc
  · have : a ≠ b := fun q => hc (by rw [q])
    simp [eqv_ne this]
  have hc : a.length = b.length := by omega
  simp
  refine WK_range tgrow (fun k s h => a.take k = b.take k) a.length w113_0 rfl (by decide) (by simp) (by simp) (by omega) (by decide) (fun _ _ _ _ j _ => j) (by simp) ?_ ?_
  · intro k s' h' hk hj hi hs hg'
    have f15 : s' 15 = sl a := (hs 15 (by decide)).trans (by simp)
    have f1 : s' 1 = sl b := (hs 1 (by decide)).trans (by simp)
    have f2 : s' 2 = .fn 112 [] [] := (hs 2 (by decide)).trans (by simp)
    have hk' : k < b.length := by omega
    simp [hi, f15, f1, f2, evIdx_nat, rd1_ptr, hk, hk', eqStr_r a[k] b[k] (ha2 _ (List.getElem_mem hk))]
    refine ⟨by decide, ?_⟩
    refine condS_split (fun hq => ?_) (fun hq => ?_) <;> simp at hq
    · have : a ≠ b := fun q => by subst q; rw [eqv_refl] at hq; cases hq
      simp [eqv_ne this]
    · have := take_eq_succ hj hk hk' (eqv_iff.1 hq)
      simp [hi, this]
  · intro s' h' hj hs hg'
    have := eq_of_takes hj hc
    simp [this, eqv_refl]
theorem efStrs_r (a b : List (List ByteArray)) (ha : a.length ≤ 10000000) (ha2 : ∀ l ∈ a, l.length ≤ 10000000) : pureK T 113 (some [sl a, sl b, .fn 112 [] []]) o h d r κ s Q = WR T r κ (Fr.put s d (.bool (eqv a b))) h Q := pureK_eq (efStrs_p a b ha ha2) (.inl rfl)

theorem eqInt_r (a b : List Int) (ha : a.length ≤ 1000) : pureK T 237 (some [sl a, sl b]) o h d r κ s Q = WR T r κ (Fr.put s d (.bool (eqv a b))) h Q := by
  rw [equal_r a b (by omega), dec_eqv]

theorem sameInstrC_p (a b : LInstr) (ha : FitI a) : Pure T 183 [.agg (Enc.c a), .agg (Enc.c b)] (.bool (eqv a b)) true := by
  refine ⟨c183, rfl, rfl, ?_⟩
  obtain ⟨l1, l2, l3⟩ := ha
  obtain ⟨a1, a2, a3, a4, a5, a6, a7, a8⟩ := a
  obtain ⟨b1, b2, b3, b4, b5, b6, b7, b8⟩ := b
  simp at l1 l2 l3
  simp [c183, eqInt_r a3 b3 l1, eqInt_r a4 b4 l2, eqInt_r a8 b8 l3]
  (repeat' ((first | refine gdS_split (fun hc => ?_) (fun hc => ?_) | refine condS_split (fun hc => ?_) (fun hc => ?_)) <;> (try simp at hc) <;> (try simp [hc, eqInt_r a3 b3 l1, eqInt_r a4 b4 l2, eqInt_r a8 b8 l3])))
  all_goals simp_all [eqv]

theorem sameRegC_p (a b : LReg) (ha : a.pot.length ≤ 10000000) : Pure T 131 [.agg (Enc.c a), .agg (Enc.c b)] (.bool (eqv a b)) true := by
  refine ⟨c131, rfl, rfl, ?_⟩
  obtain ⟨a1, a2, a3, a4⟩ := a
  obtain ⟨b1, b2, b3, b4⟩ := b
  simp at ha
  simp [c131, eqStr_r a4 b4 ha, beq_eqv]
  (repeat' ((first | refine gdS_split (fun hc => ?_) (fun hc => ?_) | refine condS_split (fun hc => ?_) (fun hc => ?_)) <;> (try simp at hc) <;> (try simp [hc, eqStr_r a4 b4 ha, beq_eqv])))
  all_goals simp_all [eqv]
theorem sameRegC_r (a b : LReg) (ha : a.pot.length ≤ 10000000) : pureK T 131 (some [.agg [PV.bool a.live, PV.int .i64 a.type, PV.bool a.read, sl a.pot], .agg [PV.bool b.live, PV.int .i64 b.type, PV.bool b.read, sl b.pot]]) o h d r κ s Q = WR T r κ (Fr.put s d (.bool (eqv a b))) h Q := pureK_eq (sameRegC_p a b ha) (.inl rfl)

theorem trimmed_p (l : List LReg) (hl : l.length ≤ 1000000) (hp : ∀ x ∈ l, x.pot.length ≤ 10000000) : Pure T 181 [sl l] (sl (live l)) false := by
  refine ⟨c181, rfl, rfl, ?_⟩
  simp [c181]
  refine WK_loop tgrow (fun k s h => s 0 = sl (l.take (l.length - k)) ∧ trimN l (l.length - k) = trimN l l.length) l.length w181_0 (by decide) (by simp) ?_
  rintro k s' h' hk ⟨e0, hj⟩ hs hg
  have done : ∀ m, m ≤ l.length → m = trimN l l.length → l.take m = live l := fun m _ h => by rw [live, h]
  generalize hm : l.length - k = m at e0 hj
  have hml : (l.take m).length = m := by rw [List.length_take]; omega
  have hget : ∀ (h1 : m - 1 < l.length) (h2 : m - 1 < (l.take m).length), (l.take m)[m - 1] = l[m - 1] := fun _ _ => List.getElem_take
  have hs4 : evSlice 4 (sl (l.take m)) none (some (.int .i64 ((m - 1 : Nat) : Int))) none = some (sl (l.take (m - 1))) := by
    rw [evSlice_sl_hi (z := 4) rfl (by omega), List.take_take, Nat.min_eq_left (by omega)]
  have hd2 : m = trimN l l.length → l.take m = live l := done m (by omega)
  generalize l.take m = L at e0 hml hget hs4 hd2
  simp [c181_0, e0, hml]
  refine gdS_split (fun hc => ?_) (fun hc => ?_) <;> simp at hc
  case refine_2 =>
    have hm0 : m = 0 := by omega
    have := hd2 (by rw [← hj, hm0]; rfl)
    subst hm0
    simp [hc, e0, this]
  have hm1 : m - 1 < l.length := by omega
  have hm1' : m - 1 < L.length := by omega
  have hw : IntKind.i64.wrap ((m : Int) - 1) = ((m - 1 : Nat) : Int) := by rw [w64 (by omega)]; omega
  have hpx := hp _ (List.getElem_mem hm1)
  have hget := hget hm1 hm1'
  have hstop : ¬ l[m - 1] = zeroR → m = trimN l l.length := fun hz => by
    rw [← hj]
    obtain ⟨m', rfl⟩ : ∃ m', m = m' + 1 := ⟨m - 1, by omega⟩
    have : l[m']? = some l[m'] := List.getElem?_eq_getElem _
    simp only [trimN, this]
    rw [if_neg]
    intro q
    exact hz (Option.some.inj q)
  have hgo : l[m - 1] = zeroR → trimN l (m - 1) = trimN l l.length := fun hz => by
    rw [← hj]
    obtain ⟨m', rfl⟩ : ∃ m', m = m' + 1 := ⟨m - 1, by omega⟩
    have : l[m']? = some l[m'] := List.getElem?_eq_getElem _
    simp only [trimN, this]
    exact (if_pos (show some l[m'] = some zeroR from congrArg some hz)).symm
  have hmm : m - 1 = l.length - (k + 1) := by omega
  generalize hx : l[m - 1] = x at *
  have hm2 : m - 1 < m := by omega
  simp [e0, hml, hw, evIdx_nat, rds_ptr, hm2, hget, hc]
  have hsr := fun {o d r s Q κ} => sameRegC_r (o := o) (h := h') (d := d) (r := r) (κ := κ) (s := s) (Q := Q) x zeroR hpx
  simp only [zeroR] at hsr
  rw [show sl ([] : List Int) = sl ([] : List ByteArray) from rfl, hsr]
  simp
  cases hq : eqv x ⟨false, 0, false, []⟩
  · have hne : ¬ x = zeroR := fun q => by rw [q] at hq; simp [eqv, zeroR] at hq
    have := hd2 (hstop hne)
    simp [e0, this]
  · have he : x = zeroR := by simpa [eqv, zeroR] using hq
    have hkl : k < l.length := by omega
    simp [e0, hml, hw, hs4, hkl]
    rw [← hmm]
    exact ⟨rfl, hgo he⟩
theorem trimmed_r (l : List LReg) (hl : l.length ≤ 1000000) (hp : ∀ x ∈ l, x.pot.length ≤ 10000000) : pureK T 181 (some [sl l]) false h d r κ s Q = WR T r κ (Fr.put s d (sl (live l))) h Q := pureK_eq (trimmed_p l hl hp) (.inr rfl)
end
end Go.Proofs.YtkaabknkabdfpaaGreatDoor

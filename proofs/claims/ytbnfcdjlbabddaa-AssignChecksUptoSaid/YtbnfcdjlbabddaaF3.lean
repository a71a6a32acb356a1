/- Chapter 46: valid assignments. The law AssignPairs, evaluated. -/
import Derived.Test.YtbnfcdjlbabddaaF2
set_option linter.unusedVariables false
set_option linter.unusedSimpArgs false
namespace Go.Proofs.Ytbnfcdjlbabddaa
open Go.Ev

/-- A parameter, or bound. -/
def known (f : LFun) (vs : List Int) (v : Int) : Prop := v < f.params ∨ v ∈ vs
theorem newNo_known {f : LFun} {vs : List Int} {v : Int} (h0 : 0 ≤ v) (hp : 0 ≤ f.params) : 0 ≤ newNo f vs v ↔ known f vs v := by
  unfold newNo known
  split
  · rename_i h; simp [h, h0]
  · rename_i h
    split
    · rename_i h1
      have := idxOf_ge.2 h1
      simp [h1]; omega
    · rename_i h1; simp [h, h1]
theorem bnds_get {f : LFun} : ∀ (ts : List Tr) (es : List (Int × List Int)) (k : Nat) (hk : k < ts.length) (hk' : k < es.length), ∀ v, v ∈ es[k].2 ∨ v ∈ bnd f ts[k] → v ∈ bnds f ts es
  | t :: ts, e :: es, 0, _, _, v, hv => by
    rw [bnds]
    exact List.mem_append_left _ (List.mem_append.2 hv)
  | t :: ts, e :: es, k + 1, hk, hk', v, hv => by
    rw [bnds]
    exact List.mem_append_right _ (bnds_get ts es k (by simpa using hk) (by simpa using hk') v hv)
theorem sets_var {f : LFun} {sc : List Int} {t : Tr} (h : Ok f sc t) : ∀ x ∈ setsL f t, ∀ v ∈ x, (0 ≤ v ∧ v < (f.vars.length : Int)) ∧ (v < f.params ∨ v ∈ sc ∨ v ∈ bnd f t) := by
  induction h with
  | @node sc a ts ha hu hl hr hs hb ih =>
    intro x hx v hv
    rw [setsL] at hx
    rcases List.mem_append.1 hx with hx | hx
    · rw [setsC_eq] at hx
      obtain ⟨p, hp, hx⟩ := List.mem_flatMap.1 hx
      obtain ⟨k, hk, rfl⟩ := List.getElem_of_mem hp
      have hk1 : k < ts.length := by rw [List.length_zip] at hk; omega
      have hk2 : k < (edg (nodeAt f a)).length := by omega
      rw [List.getElem_zip] at hx
      have hbn := bnds_get (f := f) ts (edg (nodeAt f a)) k hk1 hk2
      have fin : (v < f.params ∨ v ∈ sc ++ (edg (nodeAt f a))[k].2 ∨ v ∈ bnd f ts[k]) → (v < f.params ∨ v ∈ sc ∨ v ∈ bnd f (.node a ts)) := by
        rw [bnd]
        rintro (q | q | q)
        · exact .inl q
        · rcases List.mem_append.1 q with q | q
          · exact .inr (.inl q)
          · exact .inr (.inr (hbn v (.inl q)))
        · exact .inr (.inr (hbn v (.inr q)))
      rcases List.mem_append.1 hx with hx | hx
      · obtain ⟨h1, h2⟩ := ih k hk1 hk2 x hx v hv
        exact ⟨h1, fin h2⟩
      · rw [List.mem_singleton.1 hx] at hv
        simp only at hv
        rcases mem_un.1 hv with q | q
        · obtain ⟨h1, h2, h3⟩ := atL_var (hs k hk1 hk2) v q
          refine ⟨⟨h1, h2⟩, fin ?_⟩
          rcases h3 with h3 | h3
          · exact .inl h3
          · exact .inr (.inl h3)
        · obtain ⟨h1, h2, h3⟩ := hb _ (List.getElem_mem hk2) v q
          exact ⟨⟨h1, h3⟩, fin (.inr (.inl (List.mem_append_right _ q)))⟩
    · rw [List.mem_singleton.1 hx] at hv
      obtain ⟨h1, h2, h3⟩ := atL_var (.node ha hu hl hr hs hb) v hv
      refine ⟨⟨h1, h2⟩, ?_⟩
      rcases h3 with h3 | h3
      · exact .inl h3
      · exact .inr (.inl h3)
theorem allS_var {f : LFun} {t : Tr} (ht : treeS f = some t) : ∀ x ∈ allS f t, ∀ v ∈ x, (0 ≤ v ∧ v < (f.vars.length : Int)) ∧ known f (bnd f t) v := by
  obtain ⟨hok, _, _, _, hp⟩ := treeS_ok ht
  intro x hx v hv
  rcases List.mem_cons.1 hx with rfl | hx
  · obtain ⟨h0, h1⟩ := mem_nums.1 hv
    have := hp.1; have := hp.2
    exact ⟨⟨h0, by omega⟩, .inl (by omega)⟩
  · obtain ⟨h1, h2⟩ := sets_var hok x hx v hv
    refine ⟨h1, ?_⟩
    rcases h2 with q | q | q
    · exact .inl q
    · cases q
    · exact .inr q
theorem meet_mem {L : List (List Int)} {a b : Int} : meet L a b = true ↔ a ≠ b ∧ ∃ x ∈ L, a ∈ x ∧ b ∈ x := by
  simp [meet]
theorem meet_comm (L : List (List Int)) (a b : Int) : meet L a b = meet L b a := by
  rw [Bool.eq_iff_iff, meet_mem, meet_mem]
  constructor
  · rintro ⟨h, x, hx, h1, h2⟩; exact ⟨fun q => h q.symm, x, hx, h2, h1⟩
  · rintro ⟨h, x, hx, h1, h2⟩; exact ⟨fun q => h q.symm, x, hx, h2, h1⟩

/-- A valid assignment. -/
structure Valid (f : LFun) (t : Tr) (regs : List Int) : Prop where
  len : regs.length = f.vars.length
  kn : ∀ v, 0 ≤ v → v < (f.vars.length : Int) → known f (bnd f t) v → 0 ≤ rg regs v ∧ rg regs v < 16
  un : ∀ v, 0 ≤ v → v < (f.vars.length : Int) → ¬ known f (bnd f t) v → rg regs v = -1
  pa : ∀ v, 0 ≤ v → v < f.params → rg regs v = v
  mt : ∀ a b, meet (allS f t) a b = true → rg regs a ≠ rg regs b
theorem any_nums_false {n : Nat} {p : Int → Bool} : (nums n).any p = false ↔ ∀ v, 0 ≤ v → v < (n : Int) → p v = false := by
  rw [List.any_eq_false]
  constructor
  · intro h v h0 h1
    have := h v (mem_nums.2 ⟨h0, h1⟩)
    simpa using this
  · intro h v hv
    obtain ⟨h0, h1⟩ := mem_nums.1 hv
    rw [h v h0 h1]; simp
theorem badR_false {f : LFun} {vs regs : List Int} {v : Int} (h0 : 0 ≤ v) (hp : 0 ≤ f.params) : badR f vs regs v = false ↔ (known f vs v → 0 ≤ rg regs v ∧ rg regs v < 16) ∧ (¬ known f vs v → rg regs v = -1) := by
  rw [← newNo_known h0 hp]
  by_cases h : 0 ≤ newNo f vs v
  · have h' : ¬ newNo f vs v < 0 := by omega
    simp [badR, h, h']
  · have h' : newNo f vs v < 0 := by omega
    simp [badR, h, h']
theorem checkT_zero {f : LFun} {t : Tr} {regs : List Int} : checkT f t regs = 0 ↔ regs.length = f.vars.length ∧ (nums f.vars.length).any (badR f (bnd f t) regs) = false ∧ (nums f.params.toNat).any (badP regs) = false ∧
    (nums f.vars.length).any (fun a => (nums a.toNat).any fun b => badU (allS f t) regs a b) = false := by
  unfold checkT
  by_cases h1 : regs.length = f.vars.length
  · rw [if_neg (by simp [h1])]
    cases h2 : (nums f.vars.length).any (badR f (bnd f t) regs)
    · cases h3 : (nums f.params.toNat).any (badP regs)
      · cases h4 : (nums f.vars.length).any (fun a => (nums a.toNat).any fun b => badU (allS f t) regs a b) <;> simp [h1]
      · simp
    · simp
  · simp [h1]
theorem valid_iff {f : LFun} {t : Tr} {regs : List Int} (ht : treeS f = some t) : checkT f t regs = 0 ↔ Valid f t regs := by
  obtain ⟨hok, _, _, _, hp⟩ := treeS_ok ht
  have hp0 := hp.1
  have hp1 := hp.2
  rw [checkT_zero, any_nums_false, any_nums_false, any_nums_false]
  constructor
  · rintro ⟨h1, h2, h3, h4⟩
    have kn : ∀ v, 0 ≤ v → v < (f.vars.length : Int) → known f (bnd f t) v → 0 ≤ rg regs v ∧ rg regs v < 16 := fun v v0 v1 k => ((badR_false v0 hp0).1 (h2 v v0 v1)).1 k
    refine ⟨h1, kn, fun v v0 v1 k => ((badR_false v0 hp0).1 (h2 v v0 v1)).2 k, fun v v0 v1 => ?_, ?_⟩
    · have := h3 v v0 (by omega)
      simpa [badP] using this
    · have key : ∀ a b, b < a → meet (allS f t) a b = true → rg regs a ≠ rg regs b := fun a b hab hm => by
        obtain ⟨_, x, hx, ha, hb⟩ := meet_mem.1 hm
        obtain ⟨a1, a2⟩ := allS_var ht x hx a ha
        obtain ⟨b1, b2⟩ := allS_var ht x hx b hb
        have h := h4 a a1.1 a1.2
        rw [any_nums_false] at h
        have h := h b b1.1 (by omega)
        have ka := kn a a1.1 a1.2 a2
        simp only [badU, hm, Bool.and_true, Bool.not_eq_false', Bool.or_eq_true, decide_eq_true_eq, Bool.not_eq_true', decide_eq_false_iff_not] at h
        omega
      intro a b hm
      have hne := (meet_mem.1 hm).1
      rcases Int.lt_or_lt_of_ne hne with q | q
      · exact fun e => key b a q (by rw [meet_comm]; exact hm) e.symm
      · exact key a b q hm
  · rintro ⟨len, kn, un, pa, mt⟩
    refine ⟨len, fun v v0 v1 => (badR_false v0 hp0).2 ⟨kn v v0 v1, un v v0 v1⟩, fun v v0 v1 => ?_, fun a a0 a1 => ?_⟩
    · simp [badP, pa v v0 (by omega)]
    · rw [any_nums_false]
      intro b b0 b1
      cases hm : meet (allS f t) a b with
      | false => simp [badU, hm]
      | true =>
        have := mt a b hm
        simp [badU, hm, this]
theorem checkV_zero {f : LFun} {regs : List Int} : checkV f regs = 0 ↔ ∃ t, treeS f = some t ∧ Valid f t regs := by
  unfold checkV
  cases ht : treeS f with
  | none => simp
  | some t => simp [valid_iff ht]

theorem AssignPairs_p (f : LFun) (hsm : f.code.length ≤ 1048576) (regs : List Int) : Pure T 8 [.agg (Enc.c f), sl regs] (.bool true) true := by
  refine ⟨c8, rfl, rfl, ?_⟩
  simp [c8, awake46_r, few46_r f hsm]
  cases hfw : few46 f
  · simp
  have hf := few46_fit hfw
  have c80 := hf.code
  have v60 := few46_vars hfw
  simp
  by_cases h30 : (30 : Int) < (f.vars.length : Int)
  · simp [h30]
  by_cases hc : checkV f regs = 0
  case neg => simp [h30, check_r f hf regs, hc]
  simp [h30, check_r f hf regs, hc]
  obtain ⟨t, ht, hV⟩ := checkV_zero.1 hc
  have hl := hV.len
  refine WK_loop tgrow (fun k s' h' => s' 5 = .int .i64 (k : Nat)) regs.length w8_0 (by decide) (by simp) ?_
  rintro a s1 h1 ha e5 hs1 hg1
  have f1 : s1 1 = sl regs := (hs1 1 (by decide)).trans (by simp)
  have f2 : s1 2 = .pi (Enc.c f) := (hs1 2 (by decide)).trans (by simp)
  have ha2 : a < 9223372036854775807 := by omega
  simp [c8_0, e5, f1]
  by_cases hal : a < regs.length
  case neg => simp [hal]
  simp [hal]
  refine WK_loop tgrow (fun k s' h' => s' 6 = .int .i64 (k : Nat)) a w8_1 (by decide) (by simp) ?_
  rintro b s2 h2 hb e6 hs2 hg2
  have g1 : s2 1 = sl regs := (hs2 1 (by decide)).trans (by simp [f1])
  have g2 : s2 2 = .pi (Enc.c f) := (hs2 2 (by decide)).trans (by simp [f2])
  have g5 : s2 5 = .int .i64 (a : Nat) := (hs2 5 (by decide)).trans (by simp [e5])
  have hb2 : b < 9223372036854775807 := by omega
  simp [c8_1, e6, g5]
  by_cases hba : b < a
  case neg => simp [hba, g5, ha2, hal]
  have hbl : b < regs.length := by omega
  have k3 := fun {o h d r κ s Q} => pureK_eq (o := o) (h := h) (d := d) (r := r) (κ := κ) (s := s) (Q := Q) (inter_yes f hf (a := (a : Nat)) (b := (b : Nat)) ht ⟨by omega, by omega⟩ ⟨by omega, by omega⟩) (.inl rfl)
  simp only [c_LFun] at k3
  cases hm : meet (allS f t) (a : Nat) (b : Nat) with
  | false =>
    simp only [hm] at k3
    simp [hba, g1, g2, g5, e6, k3, hb2]
  | true =>
    have hne := hV.mt _ _ hm
    rw [rg_get hal, rg_get hbl] at hne
    simp only [hm] at k3
    simp [hba, g1, g2, g5, e6, k3, hb2, evIdx_nat, rd1_ptr, hal, hbl, hne]
def shInts : Sh := .sl shInt
theorem shInts_is : shT Try.prog 8 29 = some shInts := by kernel_rfl
def mkInts (y : shInts.den) : List Int := List.map (fun (x : shInt.den) => (x : Int)) y
theorem ints_pv (y : shInts.den) : shInts.pv y = [sl (mkInts y)] := sl_eq (e := shInt) (β := Int) (g := fun x => x) (fun x => rfl) y
theorem law_assignPairs (x : shFun.den) (o : shFun.ok x ∧ shFun.small 1048576 x) (y : shInts.den) (o' : shInts.ok y ∧ shInts.small 1048576 y) : ∃ g, CE T 8 [.agg (shFun.pv x), (shInts.pv y).headD .emp] AH.zero (.bool true) g := by
  have hm := mkFun_sm x o.2
  rw [mkFun_c, ints_pv]
  exact ⟨AH.zero, (AssignPairs_p (mkFun x) hm.2.2.2.2.1.1 (mkInts y)).ce (by simp) (.inl rfl)⟩
end Go.Proofs.Ytbnfcdjlbabddaa

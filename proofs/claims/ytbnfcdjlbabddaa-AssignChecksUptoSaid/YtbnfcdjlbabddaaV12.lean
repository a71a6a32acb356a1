/- The reference's 'Check'. The law AssignChecks, evaluated. -/
import Derived.Test.YtbnfcdjlbabddaaV11
set_option linter.unusedVariables false
set_option linter.unusedSimpArgs false
namespace Go.Proofs.Ytbnfcdjlbabddaa
open Go.Ev

/-- No two of a list in one register. -/
def sep (regs x : List Int) : Prop := ∀ a b (ha : a < x.length) (hb : b < a), rg regs x[a] ≠ rg regs x[b]
theorem allS_nodup {f : LFun} {t : Tr} (ht : treeS f = some t) : ∀ x ∈ allS f t, x.Nodup := by
  obtain ⟨hok, _⟩ := treeS_ok ht
  intro x hx
  rcases List.mem_cons.1 hx with rfl | hx
  · exact nums_nodup _
  · exact sets_nodup hok x hx
theorem sep_no {f : LFun} {t : Tr} {regs : List Int} (ht : treeS f = some t) (kn : ∀ v, 0 ≤ v → v < (f.vars.length : Int) → known f (bnd f t) v → 0 ≤ rg regs v) {x : List Int} (hx : x ∈ allS f t)
    {a b : Nat} (ha : a < x.length) (hb : b < a) (e : rg regs x[a] = rg regs x[b]) : (nums f.vars.length).any (fun a => (nums a.toNat).any fun b => badU (allS f t) regs a b) = true := by
  have hnd := allS_nodup ht x hx
  have hne : x[a] ≠ x[b] := fun q => by
    have := (List.pairwise_iff_getElem.1 hnd) b a (by omega) ha hb
    exact this q.symm
  have ma := List.getElem_mem ha
  have mb := List.getElem_mem (show b < x.length by omega)
  obtain ⟨u0, u1⟩ := allS_var ht x hx _ ma
  obtain ⟨v0, v1⟩ := allS_var ht x hx _ mb
  have ku := kn _ u0.1 u0.2 u1
  have kv := kn _ v0.1 v0.2 v1
  have hm : meet (allS f t) x[a] x[b] = true := meet_mem.2 ⟨hne, x, hx, ma, mb⟩
  generalize x[a] = u at *
  generalize x[b] = v at *
  have key : ∀ a b : Int, 0 ≤ b → b < a → a < (f.vars.length : Int) → badU (allS f t) regs a b = true → (nums f.vars.length).any (fun a => (nums a.toNat).any fun b => badU (allS f t) regs a b) = true := fun a b b0 hba a1 hbad =>
    any_nums_yes (k := a.toNat) (by omega) (by
      rw [Int.toNat_of_nonneg (by omega)]
      exact any_nums_yes (k := b.toNat) (by omega) (by rw [Int.toNat_of_nonneg b0]; exact hbad))
  rcases Int.lt_or_lt_of_ne hne with q | q
  · refine key v u u0.1 q v0.2 ?_
    unfold badU
    rw [meet_comm, hm]; simp; omega
  · refine key u v v0.1 q u0.2 ?_
    unfold badU
    rw [hm]; simp; omega
theorem sep_yes {f : LFun} {t : Tr} {regs : List Int} (h : ∀ x ∈ allS f t, sep regs x) : (nums f.vars.length).any (fun a => (nums a.toNat).any fun b => badU (allS f t) regs a b) = false := by
  refine any_nums_false.2 fun a a0 a1 => any_nums_false.2 fun b b0 b1 => ?_
  cases hm : meet (allS f t) a b with
  | false => simp [badU, hm]
  | true =>
    obtain ⟨hne, x, hx, ha, hb⟩ := meet_mem.1 hm
    obtain ⟨i, hi, rfl⟩ := List.getElem_of_mem ha
    obtain ⟨j, hj, rfl⟩ := List.getElem_of_mem hb
    have hs := h x hx
    have : rg regs x[i] ≠ rg regs x[j] := by
      rcases Nat.lt_trichotomy i j with q | q | q
      · exact fun e => hs j i hj q e.symm
      · subst q; exact absurd rfl hne
      · exact hs i j hi q
    simp [badU, hm, this]

theorem refCheck_p (f : LFun) (hf : FitF f) (regs : List Int) (hrl : regs.length ≤ 1000000) : Pure T 28 [.agg (Enc.c f), sl regs] (.int .i64 (checkV f regs)) false := by
  obtain ⟨b, hS, hb⟩ := refShaped_p f hf
  have hr := fun {o h d r κ s Q} => pureK_eq (o := o) (h := h) (d := d) (r := r) (κ := κ) (s := s) (Q := Q) hS (.inl rfl)
  simp only [c_LFun] at hr
  have c80 := hf.code
  have v120 := hf.vars
  refine ⟨c28, rfl, rfl, ?_⟩
  cases ht : treeS f with
  | none =>
    have e : checkV f regs = 3 := by simp [checkV, ht]
    rw [ht] at hb
    cases b
    · simp [c28, hr, e]
    · have he : f.extern = true := by simpa using hb
      simp only [he] at hr
      simp [c28, hr, he, e]
  | some t =>
    rw [ht] at hb
    have hbe : b = true ∧ f.extern = false := by simpa using hb
    obtain ⟨rfl, he⟩ := hbe
    obtain ⟨hok, hroot, hnp, hsz, hpo⟩ := treeS_ok ht
    have hp0 := hpo.1
    obtain ⟨P, hPp⟩ : ∃ P : Nat, f.params = (P : Nat) := ⟨f.params.toNat, by have := hpo.1; omega⟩
    have hPv : P ≤ f.vars.length := by have := hpo.2; omega
    have hPt : f.params.toNat = P := by omega
    have hSets := fun {h d r κ s Q} => pureK_eq (o := false) (h := h) (d := d) (r := r) (κ := κ) (s := s) (Q := Q) (refSets_p f hf ht) (.inr rfl)
    simp only [c_LFun, he] at hr hSets
    by_cases hlen : regs.length = f.vars.length
    case neg =>
      have hlen' : ¬ (regs.length : Int) = (f.vars.length : Int) := by omega
      have e : checkV f regs = 6 := by simp [checkV, ht, checkT, hlen]
      simp [c28, hr, he, hlen', e]
    simp [c28, hr, he, hlen]
    have hbl := bndR_len hf t (pre_in hok)
    have hbc := fun {d : Option Nat} {r : List COper} {κ : List KF} {s : Fr} {Q : Fr → AH → Prop} next => bound_c (f := f) hf hok (L := []) (v := .emp) (h := AH.zero) (d := d) (r := r) (κ := κ) (s := s) (Q := Q) Acc.emp rfl (by simp; omega) next
    rw [hroot] at hbc
    simp only [c_LFun, he, List.nil_append] at hbc
    refine hbc (fun v1 h1 lo1 a1 mv1 => ?_)
    have hsn := a1.snap (m := 11) rfl (by decide)
    have hkn : ∀ v, 0 ≤ v → (0 ≤ newNo f (bnd f t) v ↔ v < f.params ∨ v ∈ bndR f t) := fun v v0 => by
      rw [newNo_known v0 hp0, bndR_mem hok]; rfl
    have hBl : (bndR f t).length ≤ 1000000 := by omega
    generalize bndR f t = B at *
    simp
    refine WK_loop tgrow (fun k s' h' => s' 6 = .int .i64 (k : Nat) ∧ h' = h1 ∧ ∀ j < k, badR f (bnd f t) regs (j : Nat) = false) regs.length w28_0 (by decide) ⟨by simp, rfl, fun j hj => absurd hj (by omega)⟩ ?_
    rintro k s2 h2 hk ⟨e6, rfl, hj⟩ hs2 hg2
    have f1 : s2 1 = sl regs := (hs2 1 (by decide)).trans (by simp)
    have f2 : s2 2 = .pi (Enc.c f) := (hs2 2 (by decide)).trans (by simp [he])
    have f5 : s2 5 = v1 := (hs2 5 (by decide)).trans (by simp)
    clear hs2 hg2
    have hk2 : k < 9223372036854775807 := by omega
    by_cases hkl : k < regs.length
    · have stop : badR f (bnd f t) regs (k : Nat) = true → checkV f regs = 2 := fun q => by
        simp [checkV, ht, checkT, hlen, any_nums_yes (show k < f.vars.length by omega) q]
      have go : badR f (bnd f t) regs (k : Nat) = false → ∀ j < k + 1, badR f (bnd f t) regs (j : Nat) = false := fun q j hj1 => by
        rcases Nat.lt_succ_iff_lt_or_eq.1 hj1 with h | h
        · exact hj j h
        · rw [h]; exact q
      have hknk := hkn (k : Nat) (by omega)
      have hbk : ∀ b : Bool, (badR f (bnd f t) regs (k : Nat) = b) = (((decide (0 ≤ newNo f (bnd f t) (k : Nat)) && (decide (regs[k] < 0) || decide (16 ≤ regs[k]))) || (decide (newNo f (bnd f t) (k : Nat) < 0) && !decide (regs[k] = -1))) = b) := fun b => by
        unfold badR; rw [rg_get hkl]
      have h15 : (15 < regs[k]) = (16 ≤ regs[k]) := by simp only [eq_iff_iff]; omega
      by_cases hc1 : (k : Int) < f.params
      · have w0 := hknk.2 (.inl hc1)
        have w1 : ¬ newNo f (bnd f t) (k : Nat) < 0 := by omega
        by_cases r0 : regs[k] < 0
        · have e := stop ((hbk true).mpr (by simp [w0, r0]))
          simp [c28_0, e6, f1, f2, f5, hkl, hc1, evIdx_nat, rd1_ptr, r0, e]
        · by_cases r1 : 16 ≤ regs[k]
          · have e := stop ((hbk true).mpr (by simp [w0, r1]))
            simp [c28_0, e6, f1, f2, f5, hkl, hc1, evIdx_nat, rd1_ptr, r0, h15, r1, e]
          · have e := go ((hbk false).mpr (by simp [w1, r0, r1]))
            simp [c28_0, e6, f1, f2, f5, hkl, hc1, evIdx_nat, rd1_ptr, r0, h15, r1, hk2]
            exact e
      · by_cases hc2 : ((k : Nat) : Int) ∈ B
        · have w0 := hknk.2 (.inr hc2)
          have w1 : ¬ newNo f (bnd f t) (k : Nat) < 0 := by omega
          by_cases r0 : regs[k] < 0
          · have e := stop ((hbk true).mpr (by simp [w0, r0]))
            simp [c28_0, e6, f1, f2, f5, hkl, hc1, hsn, inR46_r B (k : Nat) hBl, hc2, evIdx_nat, rd1_ptr, r0, e]
          · by_cases r1 : 16 ≤ regs[k]
            · have e := stop ((hbk true).mpr (by simp [w0, r1]))
              simp [c28_0, e6, f1, f2, f5, hkl, hc1, hsn, inR46_r B (k : Nat) hBl, hc2, evIdx_nat, rd1_ptr, r0, h15, r1, e]
            · have e := go ((hbk false).mpr (by simp [w1, r0, r1]))
              simp [c28_0, e6, f1, f2, f5, hkl, hc1, hsn, inR46_r B (k : Nat) hBl, hc2, evIdx_nat, rd1_ptr, r0, h15, r1, hk2]
              exact e
        · have w0 : ¬ 0 ≤ newNo f (bnd f t) (k : Nat) := fun q => by
            rcases hknk.1 q with q | q
            · exact hc1 q
            · exact hc2 q
          have w1 : newNo f (bnd f t) (k : Nat) < 0 := by omega
          by_cases r0 : regs[k] = -1
          · have e := go ((hbk false).mpr (by simp [w0, r0]))
            simp [c28_0, e6, f1, f2, f5, hkl, hc1, hsn, inR46_r B (k : Nat) hBl, hc2, evIdx_nat, rd1_ptr, r0, hk2]
            exact e
          · have e := stop ((hbk true).mpr (by simp [w1, r0]))
            simp [c28_0, e6, f1, f2, f5, hkl, hc1, hsn, inR46_r B (k : Nat) hBl, hc2, evIdx_nat, rd1_ptr, r0, e]
    have hkn0 : k = regs.length := by omega
    have n1 : (nums f.vars.length).any (badR f (bnd f t) regs) = false := any_nums_no fun j hj1 => hj j (by omega)
    simp [c28_0, e6, f1, hkl]
    refine WK_loop tgrow (fun k s' h' => s' 8 = .int .i64 (k : Nat) ∧ ∀ j < k, badP regs (j : Nat) = false) P w28_1 (by decide) ⟨by simp, fun j hj => absurd hj (by omega)⟩ ?_
    rintro k2 s3 h3 hk2' ⟨e8, hj2⟩ hs3 hg3
    have p1 : s3 1 = sl regs := (hs3 1 (by decide)).trans (by simp [f1])
    have p2 : s3 2 = .pi (Enc.c f) := (hs3 2 (by decide)).trans (by simp [f2])
    clear hs3 hg3
    have hk3 : k2 < 9223372036854775807 := by omega
    by_cases hkP : k2 < P
    · have hkr : k2 < regs.length := by omega
      by_cases r0 : regs[k2] = (k2 : Int)
      · have e : badP regs (k2 : Nat) = false := by simp [badP, rg_get hkr, r0]
        simp [c28_1, e8, p1, p2, hPp, hkP, evIdx_nat, rd1_ptr, hkr, r0, hk3]
        intro j hj1
        rcases Nat.lt_succ_iff_lt_or_eq.1 hj1 with h | h
        · exact hj2 j h
        · rw [h]; exact e
      · have e : badP regs (k2 : Nat) = true := by simp [badP, rg_get hkr, r0]
        have e2 : checkV f regs = 1 := by
          simp [checkV, ht, checkT, hlen, n1, any_nums_yes (show k2 < f.params.toNat by omega) e]
        simp [c28_1, e8, p1, p2, hPp, hkP, evIdx_nat, rd1_ptr, hkr, r0, e2]
    have n2 : (nums f.params.toNat).any (badP regs) = false := any_nums_no fun k hk => hj2 k (by omega)
    have hSmem : ∀ x, x ∈ nums f.params.toNat :: (subsP t).flatMap (setsN f) ↔ x ∈ allS f t := fun x => by
      rw [List.mem_cons, setsN_mem hok, allS, List.mem_cons]
    have hknd : ∀ v, 0 ≤ v → v < (f.vars.length : Int) → known f (bnd f t) v → 0 ≤ rg regs v := fun v v0 v1 k => (((badR_false v0 hp0).1 (any_nums_false.1 n1 v v0 v1)).1 k).1
    simp only [hPp] at hSets
    simp [c28_1, e8, p2, hPp, hkP, he, hSets]
    have hSn : ((subsP t).flatMap (setsN f)).length ≤ 80 * 21 := by
      have hSl : (subsP t).length ≤ 80 := by
        have := pre_len t
        rw [← subsP_pre, List.length_map] at this
        omega
      refine Nat.le_trans (flatMap_len (m := 21) fun u hu => ?_) (Nat.mul_le_mul_right _ hSl)
      obtain ⟨sc, hu⟩ := subsP_ok hok u hu
      cases hu with
      | @node sc a ts ha hu hl hr hs hb =>
        have hfn := hf.node _ (nodeAt_mem (show a.toNat < f.code.length by omega))
        have := kids_fit hfn
        have := edg_len (nodeAt f a)
        rw [setsN, List.length_cons, kidsN_len hl]
        omega
    have hSl2 : (nums f.params.toNat :: (subsP t).flatMap (setsN f)).length ≤ 80 * 21 + 1 := by rw [List.length_cons]; omega
    rw [hPt] at hSmem hSl2
    generalize nums P :: (subsP t).flatMap (setsN f) = SS at *
    refine WK_loop tgrow (fun k s' h' => s' 10 = .int .i64 (k : Nat) ∧ ∀ x ∈ SS.take k, sep regs x) SS.length w28_2 (by decide) ⟨by simp, by simp⟩ ?_
    rintro k4 s4 h4 hk4 ⟨e10, hsp⟩ hs4 hg4
    have g1 : s4 1 = sl regs := (hs4 1 (by decide)).trans (by simp [p1])
    have g9 : s4 9 = sl SS := (hs4 9 (by decide)).trans (by simp)
    clear hs4 hg4
    have hk5 : k4 < 9223372036854775807 := by omega
    have fin12 : ∀ x ∈ SS, ∀ a b (ha : a < x.length) (hb : b < a), rg regs x[a] = rg regs x[b] → checkV f regs = 12 := fun x hx a b ha hb e => by
      simp [checkV, ht, checkT, hlen, n1, n2, sep_no ht hknd ((hSmem x).1 hx) ha hb e]
    by_cases hkS : k4 < SS.length
    case neg =>
      have hkn : k4 = SS.length := by omega
      rw [hkn, List.take_length] at hsp
      have e : checkV f regs = 0 := by
        simp [checkV, ht, checkT, hlen, n1, n2, sep_yes (regs := regs) fun x hx => hsp x ((hSmem x).2 hx)]
      simp [c28_2, e10, g9, hkS, e]
    have hxS := List.getElem_mem hkS
    have hsnoc : sep regs SS[k4] → ∀ x ∈ SS.take (k4 + 1), sep regs x := fun q => by
      rw [take_succ' hkS]
      intro x hx
      rcases List.mem_append.1 hx with z | z
      · exact hsp x z
      · rw [List.mem_singleton.1 z]; exact q
    have hx0 := allS_var ht _ ((hSmem _).1 hxS)
    have hnd := allS_nodup ht _ ((hSmem _).1 hxS)
    have hxl : SS[k4].length ≤ 120 := by
      have : Nums f.vars.length SS[k4] := ⟨hnd, fun v hv => (hx0 v hv).1⟩
      have := this.length
      omega
    have fin12' := fin12 _ hxS
    obtain ⟨X, hX⟩ : ∃ X, X = SS[k4] := ⟨_, rfl⟩
    rw [← hX] at hx0 hxl fin12' hsnoc
    simp [c28_2, e10, g9, hkS]
    refine WK_loop tgrow (fun a s' h' => s' 11 = .int .i64 (a : Nat) ∧ ∀ i < a, ∀ b < i, ∀ (hi : i < X.length) (hb : b < X.length), rg regs X[i] ≠ rg regs X[b]) X.length w28_3 (by decide) ⟨by simp, fun i hi => absurd hi (by omega)⟩ ?_
    rintro a s5 h5 ha ⟨e11, hja⟩ hs5 hg5
    have t1 : s5 1 = sl regs := (hs5 1 (by decide)).trans (by simp [g1])
    have t9 : s5 9 = sl SS := (hs5 9 (by decide)).trans (by simp [g9])
    have t10 : s5 10 = .int .i64 (k4 : Nat) := (hs5 10 (by decide)).trans (by simp [e10])
    clear hs5 hg5
    have ha2 : a < 9223372036854775807 := by omega
    have hgX : ∀ {h : AH}, rd1 h (ptr SS k4 0) = some (sl X) := fun {h} => by rw [rd1_ptr hkS (by decide), hX]; rfl
    by_cases hal : a < X.length
    case neg =>
      have hsepX : sep regs X := fun i b hi hb => hja i (by omega) b hb hi (by omega)
      have := hsnoc hsepX
      simp [c28_3, e11, t9, t10, evIdx_nat, hkS, hgX, hal, hk5]
      exact this
    simp [c28_3, e11, t9, t10, evIdx_nat, hkS, hgX, hal]
    refine WK_loop tgrow (fun b s' h' => s' 12 = .int .i64 (b : Nat) ∧ ∀ i < b, ∀ (hi : i < X.length), rg regs X[a] ≠ rg regs X[i]) a w28_4 (by decide) ⟨by simp, fun i hi => absurd hi (by omega)⟩ ?_
    rintro b s6 h6 hb ⟨e12, hjb⟩ hs6 hg6
    have u1 : s6 1 = sl regs := (hs6 1 (by decide)).trans (by simp [t1])
    have u9 : s6 9 = sl SS := (hs6 9 (by decide)).trans (by simp [t9])
    have u10 : s6 10 = .int .i64 (k4 : Nat) := (hs6 10 (by decide)).trans (by simp [t10])
    have u11 : s6 11 = .int .i64 (a : Nat) := (hs6 11 (by decide)).trans (by simp [e11])
    clear hs6 hg6
    have hb2 : b < 9223372036854775807 := by omega
    by_cases hba : b < a
    case neg =>
      simp [c28_4, e12, u11, hba, ha2, hal]
      intro i hi b' hb' hi2 hb2'
      rcases Nat.lt_succ_iff_lt_or_eq.1 hi with h | h
      · exact hja i h b' hb' hi2 hb2'
      · subst h; exact hjb b' (by omega) hb2'
    have hbl : b < X.length := by omega
    obtain ⟨⟨x0, x1⟩, _⟩ := hx0 _ (List.getElem_mem hal)
    obtain ⟨⟨y0, y1⟩, _⟩ := hx0 _ (List.getElem_mem hbl)
    have x2 : X[a].toNat < regs.length := by omega
    have y2 : X[b].toNat < regs.length := by omega
    have rx : rg regs X[a] = regs[X[a].toNat] := by simp [rg, x2]
    have ry : rg regs X[b] = regs[X[b].toNat] := by simp [rg, y2]
    by_cases heq : regs[X[a].toNat] = regs[X[b].toNat]
    · have e := fin12' a b hal hba (by rw [rx, ry]; exact heq)
      simp [c28_4, e12, u1, u9, u10, u11, hba, evIdx_nat, hkS, hgX, rd1_ptr, hal, hbl, evIdx_sl, x0, x2, y0, y2, heq, e]
    · simp [c28_4, e12, u1, u9, u10, u11, hba, evIdx_nat, hkS, hgX, rd1_ptr, hal, hbl, evIdx_sl, x0, x2, y0, y2, heq, hb2]
      intro i hi hi2
      rcases Nat.lt_succ_iff_lt_or_eq.1 hi with h | h
      · exact hjb i h hi2
      · subst h; rw [rx, ry]; exact heq
end Go.Proofs.Ytbnfcdjlbabddaa

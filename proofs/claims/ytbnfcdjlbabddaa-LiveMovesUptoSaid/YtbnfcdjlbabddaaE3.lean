/- The law LiveBegins, evaluated. -/
import Derived.Test.YtbnfcdjlbabddaaE1
import Derived.Test.YtbnfcdjlbabddaaS4
set_option linter.unusedVariables false
set_option linter.unusedSimpArgs false
namespace Go.Proofs.Ytbnfcdjlbabddaa
open Go.Ev

theorem widS_ge {L : List (List Int)} {x : List Int} (h : x ∈ L) : x.length ≤ widS L := by
  refine snoc_ind (P := fun L => x ∈ L → x.length ≤ widS L) (fun q => by cases q) (fun L a ih hx => ?_) L h
  rw [widS_snoc]
  rcases List.mem_append.1 hx with q | q
  · have := ih q; omega
  · rw [List.mem_singleton.1 q]; omega

theorem LiveBegins_p (f : LFun) : Pure T 4 [.agg (Enc.c f)] (.bool true) true := by
  refine ⟨c4, rfl, rfl, ?_⟩
  simp [c4, awake45_r, few45_r f]
  cases hfw : few45 f
  · simp
  have hf := few45_fit hfw
  have c80 := hf.code
  have v120 := hf.vars
  simp
  cases ht : treeS f with
  | none =>
    have h1 := fun {o h d r κ s Q} => pureK_eq (o := o) (h := h) (d := d) (r := r) (κ := κ) (s := s) (Q := Q) (width_err f hf ht) (.inl rfl)
    simp only [c_LFun] at h1
    simp [h1]
  | some t =>
    obtain ⟨hok, hroot, hnp, hsz, hpo⟩ := treeS_ok ht
    have h1 := fun {o h d r κ s Q} => pureK_eq (o := o) (h := h) (d := d) (r := r) (κ := κ) (s := s) (Q := Q) (width_yes f hf ht) (.inl rfl)
    have h2 := fun {h d r κ s Q} => pureK_eq (o := false) (h := h) (d := d) (r := r) (κ := κ) (s := s) (Q := Q) (at_yes f hf f.body ht (by rw [← hroot]; exact atM_root t)) (.inr rfl)
    simp only [c_LFun] at h1 h2
    have hL : ∀ v ∈ atL f t, v < f.params := fun v hv => by
      rcases (atL_var hok v hv).2.2 with q | q
      · exact q
      · cases q
    have hLl := (atL_nums hok).length
    have hwP : f.params ≤ (widS (allS f t) : Int) := by
      have : (nums f.params.toNat).length ≤ widS (allS f t) := widS_ge (by simp [allS])
      rw [nums_len] at this
      omega
    have hwA : ∀ x ∈ setsL f t, x.length ≤ widS (allS f t) := fun x hx => widS_ge (List.mem_cons_of_mem _ hx)
    obtain ⟨w, hw⟩ : ∃ w, w = widS (allS f t) := ⟨_, rfl⟩
    rw [← hw] at hwP hwA h1
    generalize hLe : atL f t = L at *
    simp [h1, h2]
    refine WK_loop tgrow (fun q s2 h2 => s2 7 = .int .i64 (q : Nat)) L.length w4_0 (by decide) (by simp) ?_
    rintro q s2 hh2 hq e7 hs2 hg2
    have f1 : s2 1 = .pi (Enc.c f) := (hs2 1 (by decide)).trans (by simp)
    have f3 : s2 3 = .int .i64 (w : Nat) := (hs2 3 (by decide)).trans (by simp)
    have f5 : s2 5 = sl L := (hs2 5 (by decide)).trans (by simp)
    have hq2 : q < 9223372036854775807 := by omega
    simp [c4_0, e7, f5]
    by_cases hql : q < L.length
    · have hlt := hL _ (List.getElem_mem hql)
      have hge : ¬ f.params ≤ L[q] := by omega
      simp [hql, e7, f1, f5, evIdx_nat, rd1_ptr, hge, hq2]
    simp [hql]
    refine WK_loop tgrow (fun i s3 h3 => s3 8 = .int .i64 (i : Nat)) f.code.length w4_1 (by decide) (by simp) ?_
    rintro i s3 h3 hi e8 hs3 hg3
    have g1 : s3 1 = .pi (Enc.c f) := (hs3 1 (by decide)).trans (by simp [f1])
    have g3 : s3 3 = .int .i64 (w : Nat) := (hs3 3 (by decide)).trans (by simp [f3])
    have hi2 : i < 9223372036854775807 := by omega
    simp [c4_1, e8, g1]
    by_cases hil : i < f.code.length
    case neg => simp [hil, g1, g3, hwP]
    by_cases hp : (i : Int) ∈ t.pre
    case neg =>
      have k1 := fun {o h d r κ s Q} => pureK_eq (o := o) (h := h) (d := d) (r := r) (κ := κ) (s := s) (Q := Q) (at_range f hf (i : Int) ht hp) (.inl rfl)
      simp only [c_LFun] at k1
      simp [k1, g1, e8, hi2, hil]
    obtain ⟨sc', t', hok', hroot', hat, haf, hss⟩ := sub_at hok _ hp
    have k1 := fun {h d r κ s Q} => pureK_eq (o := false) (h := h) (d := d) (r := r) (κ := κ) (s := s) (Q := Q) (at_yes f hf (i : Int) ht hat) (.inr rfl)
    simp only [c_LFun] at k1
    have hnum := atL_nums hok'
    have hal := hnum.length
    have hsrt := atL_sorted (f := f) t'
    have hAs : atL f t' ∈ setsL f t := hss _ (atL_sets t')
    have hAw := hwA _ hAs
    generalize atL f t' = A at *
    have hnw : ¬ w < A.length := by omega
    simp [k1, g1, g3, e8, hil, hnw]
    refine WK_loop tgrow (fun j s4 h4 => s4 11 = .int .i64 (j : Nat)) A.length w4_2 (by decide) (by simp) ?_
    rintro j s4 h4 hj e11 hs4 hg4
    have p1 : s4 1 = .pi (Enc.c f) := (hs4 1 (by decide)).trans (by simp [g1])
    have p9 : s4 9 = sl A := (hs4 9 (by decide)).trans (by simp)
    have p8 : s4 8 = .int .i64 (i : Nat) := (hs4 8 (by decide)).trans (by simp [e8])
    have hj2 : j < 9223372036854775807 := by omega
    simp [c4_2, e11, p9]
    by_cases hjl : j < A.length
    case neg => simp [hjl, p8, hi2, hil]
    simp [hjl]
    refine WK_loop tgrow (fun k s5 h5 => s5 12 = .int .i64 (k : Nat)) j w4_3 (by decide) (by simp) ?_
    rintro k s5 h5 hk e12 hs5 hg5
    have q1 : s5 1 = .pi (Enc.c f) := (hs5 1 (by decide)).trans (by simp [p1])
    have q9 : s5 9 = sl A := (hs5 9 (by decide)).trans (by simp [p9])
    have q11 : s5 11 = .int .i64 (j : Nat) := (hs5 11 (by decide)).trans (by simp [e11])
    have hk2 : k < 9223372036854775807 := by omega
    simp [c4_3, e12, q11]
    by_cases hkj : k < j
    case neg => simp [hkj, q11, hj2, hjl]
    have hkl : k < A.length := by omega
    have hlt := List.pairwise_iff_getElem.1 hsrt k j hkl hjl hkj
    have hmeet : meet (allS f t) A[j] A[k] = true := by
      have hne : ¬ A[j] = A[k] := by omega
      simp only [meet, hne, decide_false, Bool.not_false, Bool.true_and]
      exact List.any_eq_true.2 ⟨A, List.mem_cons_of_mem _ hAs, by simp [List.getElem_mem]⟩
    have b1 := hnum.2 _ (List.getElem_mem hjl)
    have b2 := hnum.2 _ (List.getElem_mem hkl)
    have k3 := fun {o h d r κ s Q} => pureK_eq (o := o) (h := h) (d := d) (r := r) (κ := κ) (s := s) (Q := Q) (inter_yes f hf ht b1 b2) (.inl rfl)
    simp only [c_LFun, hmeet] at k3
    simp [hkj, q1, q9, q11, e12, evIdx_nat, rd1_ptr, hjl, hkl, k3, hk2]

theorem law_liveBegins (x : shFun.den) (o : shFun.ok x ∧ shFun.small 1048576 x) : ∃ g, CE T 4 [.agg (shFun.pv x)] AH.zero (.bool true) g := by
  rw [mkFun_c]
  exact ⟨AH.zero, (LiveBegins_p (mkFun x)).ce (by simp) (.inl rfl)⟩
end Go.Proofs.Ytbnfcdjlbabddaa

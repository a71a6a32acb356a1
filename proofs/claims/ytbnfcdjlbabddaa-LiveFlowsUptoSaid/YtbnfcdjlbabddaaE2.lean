/- The law LiveFlows, evaluated. -/
import Derived.Test.YtbnfcdjlbabddaaE1
import Derived.Test.YtbnfcdjlbabddaaS4
set_option linter.unusedVariables false
set_option linter.unusedSimpArgs false
namespace Go.Proofs.Ytbnfcdjlbabddaa
open Go.Ev

theorem LiveFlows_p (f : LFun) : Pure T 3 [.agg (Enc.c f)] (.bool true) true := by
  refine ⟨c3, rfl, rfl, ?_⟩
  simp [c3, awake45_r, few45_r f]
  cases hfw : few45 f
  · simp
  have hf := few45_fit hfw
  have c80 := hf.code
  have v120 := hf.vars
  simp
  refine WK_loop tgrow (fun k s' h' => s' 3 = .int .i64 (k : Nat)) f.code.length w3_0 (by decide) (by simp) ?_
  rintro k s' h' hk e3 hs hg
  have f1 : s' 1 = .pi (Enc.c f) := (hs 1 (by decide)).trans (by simp)
  have hk2 : k < 9223372036854775807 := by omega
  simp [c3_0, e3, f1]
  by_cases hkl : k < f.code.length
  case neg =>
    simp [hkl]
  simp [hkl, f1, e3]
  have skip : ∀ (e : Int), e ≠ 0 → Pure T 14 [.agg (Enc.c f), .int .i64 (k : Int)] (.tup [sl ([] : List Int), .int .i64 e]) true → Pure T 15 [.agg (Enc.c f), .int .i64 (k : Int)] (.tup [sl ([] : List Int), .int .i64 e]) true → True := fun _ _ _ _ => trivial
  cases ht : treeS f with
  | none =>
    have h1 := fun {o h d r κ s Q} => pureK_eq (o := o) (h := h) (d := d) (r := r) (κ := κ) (s := s) (Q := Q) (at_err f hf (k : Int) ht) (.inl rfl)
    have h2 := fun {o h d r κ s Q} => pureK_eq (o := o) (h := h) (d := d) (r := r) (κ := κ) (s := s) (Q := Q) (after_err f hf (k : Int) ht) (.inl rfl)
    simp only [c_LFun] at h1 h2
    simp [h1, h2, f1, e3, hk2, hkl]
  | some t =>
    obtain ⟨hok, _, hnp, hsz, _⟩ := treeS_ok ht
    by_cases hp : (k : Int) ∈ t.pre
    case neg =>
      have h1 := fun {o h d r κ s Q} => pureK_eq (o := o) (h := h) (d := d) (r := r) (κ := κ) (s := s) (Q := Q) (at_range f hf (k : Int) ht hp) (.inl rfl)
      have h2 := fun {o h d r κ s Q} => pureK_eq (o := o) (h := h) (d := d) (r := r) (κ := κ) (s := s) (Q := Q) (after_range f hf (k : Int) ht hp) (.inl rfl)
      simp only [c_LFun] at h1 h2
      simp [h1, h2, f1, e3, hk2, hkl]
    obtain ⟨sc', t', hok', hroot, hat, haf, _⟩ := sub_at hok _ hp
    have h1 := fun {h d r κ s Q} => pureK_eq (o := false) (h := h) (d := d) (r := r) (κ := κ) (s := s) (Q := Q) (at_yes f hf (k : Int) ht hat) (.inr rfl)
    have h2 := fun {h d r κ s Q} => pureK_eq (o := false) (h := h) (d := d) (r := r) (κ := κ) (s := s) (Q := Q) (after_yes f hf (k : Int) ht haf) (.inr rfl)
    simp only [c_LFun] at h1 h2
    have hx : nodeAt f t'.root = f.code[k] := by rw [hroot, nodeAt_eq (by simpa using hkl)]; simp
    have hfn := hf.node _ (List.getElem_mem hkl)
    have hmem := atL_mem (f := f) t'
    rw [hx] at hmem
    have hnum := atL_nums hok'
    have hal := hnum.length
    have hafl := afL_len hf hok'
    have hsrt := atL_sorted (f := f) t'
    have hul := uses_fit hfn
    have hbl := binds_fit hfn
    generalize atL f t' = A at *
    generalize afL f t' = B at *
    simp [h1, h2, f1, e3, evIdx_nat, rds_ptr, hkl, uses_r f.code[k] hfn, binds_r f.code[k] hfn]
    refine WK_loop tgrow (fun v s2 h2 => s2 10 = .int .i64 (v : Nat)) f.vars.length w3_1 (by decide) (by simp) ?_
    rintro v s2 h2 hv e10 hs2 hg2
    have p1 : s2 1 = .pi (Enc.c f) := (hs2 1 (by decide)).trans (by simp [f1])
    have p4 : s2 4 = sl A := (hs2 4 (by decide)).trans (by simp)
    have p6 : s2 6 = sl B := (hs2 6 (by decide)).trans (by simp)
    have p8 : s2 8 = sl (uses f.code[k]) := (hs2 8 (by decide)).trans (by simp)
    have p9 : s2 9 = sl (binds f.code[k]) := (hs2 9 (by decide)).trans (by simp)
    have p3 : s2 3 = .int .i64 (k : Nat) := (hs2 3 (by decide)).trans (by simp [e3])
    have hv2 : v < 9223372036854775807 := by omega
    simp [c3_1, e10, p1]
    by_cases hvl : v < f.vars.length
    · have i1 := fun {o h d r κ s Q} => in45_r (o := o) (h := h) (d := d) (r := r) (κ := κ) (s := s) (Q := Q) A (v : Int) (by omega)
      have i2 := fun {o h d r κ s Q} => in45_r (o := o) (h := h) (d := d) (r := r) (κ := κ) (s := s) (Q := Q) B (v : Int) (by omega)
      have i3 := fun {o h d r κ s Q} => in45_r (o := o) (h := h) (d := d) (r := r) (κ := κ) (s := s) (Q := Q) (uses f.code[k]) (v : Int) (by omega)
      have i4 := fun {o h d r κ s Q} => in45_r (o := o) (h := h) (d := d) (r := r) (κ := κ) (s := s) (Q := Q) (binds f.code[k]) (v : Int) (by omega)
      have hm := hmem (v : Int)
      by_cases u : (v : Int) ∈ uses f.code[k]
      · have ha : (v : Int) ∈ A := hm.2 (.inl u)
        simp [hvl, e10, p4, p6, p8, p9, i1, i2, i3, i4, u, ha, hv2]
      · by_cases b : (v : Int) ∈ B
        · by_cases c : (v : Int) ∈ binds f.code[k]
          · have ha : ¬ (v : Int) ∈ A := fun q => by
              rcases hm.1 q with q | q
              · exact u q
              · exact q.2 c
            simp [hvl, e10, p4, p6, p8, p9, i1, i2, i3, i4, u, b, c, ha, hv2]
          · have ha : (v : Int) ∈ A := hm.2 (.inr ⟨b, c⟩)
            simp [hvl, e10, p4, p6, p8, p9, i1, i2, i3, i4, u, b, c, ha, hv2]
        · have ha : ¬ (v : Int) ∈ A := fun q => by
            rcases hm.1 q with q | q
            · exact u q
            · exact b q.1
          simp [hvl, e10, p4, p6, p8, p9, i1, i2, i3, i4, u, b, ha, hv2]
    · simp [hvl]
      refine WK_loop tgrow (fun q s4 h4 => s4 11 = .int .i64 (q : Nat)) A.length w3_2 (by decide) (by simp) ?_
      rintro q s4 h4 hq e11 hs4 hg4
      have q1 : s4 1 = .pi (Enc.c f) := (hs4 1 (by decide)).trans (by simp [p1])
      have q4 : s4 4 = sl A := (hs4 4 (by decide)).trans (by simp [p4])
      have q3 : s4 3 = .int .i64 (k : Nat) := (hs4 3 (by decide)).trans (by simp [p3])
      have hq2 : q < 9223372036854775807 := by omega
      simp [c3_2, e11, q4]
      by_cases hql : q < A.length
      · have hb := hnum.2 _ (List.getElem_mem hql)
        have b0 : ¬ A[q] < 0 := by omega
        have b1 : ¬ (f.vars.length : Int) ≤ A[q] := by omega
        cases q with
        | zero =>
          have e0 : evIdx 1 (sl A) 0 = some (ptr A 0 0) := evIdx_nat (l := A) (k := 0) rfl hql
          simp [hql, e11, q1, q4, e0, rd1_ptr, b0, b1]
          exact w64 (by omega)
        | succ q =>
          have hlt := List.pairwise_iff_getElem.1 hsrt q (q + 1) (by omega) hql (by omega)
          have hql1 : q < A.length := by omega
          have hw : IntKind.i64.wrap (((q + 1 : Nat) : Int) - 1) = (q : Int) := by rw [w64 (by omega)]; omega
          have hle : ¬ A[q + 1] ≤ A[q] := by omega
          have hpos : ((0 : Int) < ((q + 1 : Nat) : Int)) = True := by simp
          simp [hql, hql1, e11, q1, q4, evIdx_nat, rd1_ptr, b0, b1, hw, hle, hpos, hq2, -Int.natCast_add]
          omega
      · simp [hql, q3, hk2, hkl]

theorem law_liveFlows (x : shFun.den) (o : shFun.ok x ∧ shFun.small 1048576 x) : ∃ g, CE T 3 [.agg (shFun.pv x)] AH.zero (.bool true) g := by
  rw [mkFun_c]
  exact ⟨AH.zero, (LiveFlows_p (mkFun x)).ce (by simp) (.inl rfl)⟩
end Go.Proofs.Ytbnfcdjlbabddaa

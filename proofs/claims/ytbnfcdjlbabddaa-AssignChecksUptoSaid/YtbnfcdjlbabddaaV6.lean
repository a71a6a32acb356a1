/- The reference: the variables that are live at a node. -/
import Derived.Test.YtbnfcdjlbabddaaV5
set_option linter.unusedVariables false
set_option linter.unusedSimpArgs false
namespace Go.Proofs.Ytbnfcdjlbabddaa
open Go.Ev

theorem un_nums {N : Nat} {a b : List Int} (ha : ∀ x ∈ a, 0 ≤ x ∧ x < (N : Int)) (hb : ∀ x ∈ b, 0 ≤ x ∧ x < (N : Int)) : Nums N (un a b) :=
  ⟨un_nodup a b, fun x hx => (mem_un.1 hx).elim (ha x) (hb x)⟩
theorem kids_edg (n : LNode) : kids n = (edg n).map (·.1) := by
  unfold edg
  split
  · rename_i h
    have : isNext 9 = false := by decide
    simp [kids, h, this]
  · simp [Function.comp_def]
theorem afC_take {f : LFun} {ts : List Tr} {k : Nat} (hk : k < ts.length) {x : Int} : x ∈ afC f (ts.take (k + 1)) ↔ x ∈ afC f (ts.take k) ∨ x ∈ atL f ts[k] := by
  rw [afC_eq, afC_eq, take_succ' hk, List.flatMap_append, List.mem_append]
  simp

section
variable {f : LFun}
theorem refAfter_p (hf : FitF f) {a : Int} {ts : List Tr} (ha : 0 ≤ a ∧ a < (f.code.length : Int)) (hl : ts.length = (edg (nodeAt f a)).length)
    (hr : ∀ k (hk : k < ts.length) (hk' : k < (edg (nodeAt f a)).length), ts[k].root = (edg (nodeAt f a))[k].1)
    (hv : ∀ k (hk : k < ts.length), Nums f.vars.length (atL f ts[k]))
    (ih : ∀ k (hk : k < ts.length), Pure T 66 [.agg (Enc.c f), .int .i64 ts[k].root] (sl (atL f ts[k])) false) :
    Pure T 72 [.agg (Enc.c f), .int .i64 a] (sl (un (afC f ts) [])) false := by
  refine ⟨c72, rfl, rfl, ?_⟩
  have c80 := hf.code
  have v120 := hf.vars
  have hal : a.toNat < f.code.length := by omega
  have hfn := hf.node _ (nodeAt_mem hal)
  obtain ⟨x, hxe⟩ : ∃ x, x = nodeAt f a := ⟨_, rfl⟩
  have hcx : f.code[a.toNat] = x := by rw [hxe, nodeAt_eq hal]
  rw [← hxe] at hfn hl hr
  have hkl := kids_fit hfn
  have hkl2 : (kids x).length = ts.length := by rw [kids_edg, List.length_map, hl]
  have hU : ∀ k, ∀ y ∈ afC f (ts.take k), 0 ≤ y ∧ y < (f.vars.length : Int) := fun k y hy => by
    rw [afC_eq] at hy
    obtain ⟨t, ht, hy⟩ := List.mem_flatMap.1 hy
    obtain ⟨j, hj, rfl⟩ := List.getElem_of_mem (List.mem_of_mem_take ht)
    exact (hv j hj).2 y hy
  simp [c72, evIdx_sl, ha.1, rds_ptr, hal, hcx, kidsR_r x hfn]
  refine WK_loop tgrow (fun k s' h' => s' 7 = .int .i64 (k : Nat) ∧ h' = AH.zero ∧ ((s' 5 = .emp ∧ un (afC f (ts.take k)) [] = []) ∨ s' 5 = sl (un (afC f (ts.take k)) []))) ts.length w72_0 (by decide) ⟨by simp, rfl, .inl ⟨by simp, by simp [afC, un_nil]⟩⟩ ?_
  rintro k s1 h1 hk ⟨e7, rfl, j5⟩ hs1 hg1
  have f2 : s1 2 = .pi (Enc.c f) := (hs1 2 (by decide)).trans (by simp)
  have f6 : s1 6 = sl (kids x) := (hs1 6 (by decide)).trans (by simp)
  clear hs1 hg1
  have hk2 : k < 9223372036854775807 := by omega
  by_cases hkl3 : k < ts.length
  · have hkk : k < (kids x).length := by omega
    have hke : k < (edg x).length := by omega
    have er : (kids x)[k] = ts[k].root := by
      rw [hr k hkl3 hke]
      simp only [kids_edg, List.getElem_map]
    have hi := fun {h d r κ s Q} => pureK_eq (o := false) (h := h) (d := d) (r := r) (κ := κ) (s := s) (Q := Q) (ih k hkl3) (.inr rfl)
    simp only [c_LFun] at hi
    have hvk := hv k hkl3
    have hvl := hvk.length
    simp [c72_0, e7, f2, f6, hkk, evIdx_nat, rd1_ptr, er, hi]
    generalize hA : atL f ts[k] = A at *
    refine WK_loop tgrow (fun j s' h' => s' 9 = .int .i64 (j : Nat) ∧ h' = AH.zero ∧ ((s' 5 = .emp ∧ un (un (afC f (ts.take k)) []) (A.take j) = []) ∨ s' 5 = sl (un (un (afC f (ts.take k)) []) (A.take j)))) A.length w72_1 (by decide) ⟨by simp, rfl, ?_⟩ ?_
    · rw [List.take_zero, un_nil (un_sorted _ _)]
      simpa using j5
    rintro j s2 h2 hj ⟨e9, rfl, j6⟩ hs2 hg2
    have g2 : s2 2 = .pi (Enc.c f) := (hs2 2 (by decide)).trans (by simp [f2])
    have g6 : s2 6 = sl (kids x) := (hs2 6 (by decide)).trans (by simp [f6])
    have g7 : s2 7 = .int .i64 (k : Nat) := (hs2 7 (by decide)).trans (by simp [e7])
    have g8 : s2 8 = sl A := (hs2 8 (by decide)).trans (by simp)
    clear hs2 hg2
    have hj2 : j < 9223372036854775807 := by omega
    by_cases hjl : j < A.length
    · have hn : Nums f.vars.length (un (un (afC f (ts.take k)) []) (A.take j)) := un_nums (fun y hy => (mem_un.1 hy).elim (hU k y) (fun q => by cases q)) fun y hy => hvk.2 y (List.mem_of_mem_take hy)
      have hnl := hn.length
      have hs := un_sorted (un (afC f (ts.take k)) []) (A.take j)
      have hp := fun {h d r κ s Q} => pureK_eq (o := false) (h := h) (d := d) (r := r) (κ := κ) (s := s) (Q := Q) (put_p _ A[j] hs (by omega)) (.inr rfl)
      rw [un_step hjl] at hp
      rcases j6 with ⟨q5, q6⟩ | q5
      · rw [q6] at hp
        simp at hp
        simp [c72_1, e9, g8, hjl, q5, evIdx_nat, rd1_ptr, hp, hj2]
      · simp [c72_1, e9, g8, hjl, q5, evIdx_nat, rd1_ptr, hp, hj2]
    · have hjn : j = A.length := by omega
      have e : un (un (afC f (ts.take k)) []) (A.take j) = un (afC f (ts.take (k + 1))) [] := by
        rw [hjn, List.take_length]
        refine un_ext (un_sorted _ _) fun y => ?_
        rw [mem_un, mem_un, afC_take hkl3, hA]
        simp
      rw [e] at j6
      simp [c72_1, e9, g8, hjl, g7, hk2, hkl3]
      exact j6
  · have hkn : k = ts.length := by omega
    have hkk : ¬ k < (kids x).length := by omega
    rw [hkn, List.take_length] at j5
    rcases j5 with ⟨q5, q6⟩ | q5
    · simp [c72_0, e7, f6, hkk, q5, q6]
    · simp [c72_0, e7, f6, hkk, q5]

theorem refAt_w (hf : FitF f) {a : Int} {ts : List Tr} (ha : 0 ≤ a ∧ a < (f.code.length : Int)) (hA : Nums f.vars.length (un (afC f ts) [])) (hu : ∀ v ∈ uses (nodeAt f a), 0 ≤ v ∧ v < (f.vars.length : Int))
    (hP : Pure T 72 [.agg (Enc.c f), .int .i64 a] (sl (un (afC f ts) [])) false) :
    Pure T 66 [.agg (Enc.c f), .int .i64 a] (sl (atL f (.node a ts))) false := by
  refine ⟨c66, rfl, rfl, ?_⟩
  have c80 := hf.code
  have v120 := hf.vars
  have hal : a.toNat < f.code.length := by omega
  have hfn := hf.node _ (nodeAt_mem hal)
  obtain ⟨x, hxe⟩ : ∃ x, x = nodeAt f a := ⟨_, rfl⟩
  have hcx : f.code[a.toNat] = x := by rw [hxe, nodeAt_eq hal]
  rw [← hxe] at hfn hu
  have hbl := binds_fit hfn
  have hul := uses_fit hfn
  have hr := fun {h d r κ s Q} => pureK_eq (o := false) (h := h) (d := d) (r := r) (κ := κ) (s := s) (Q := Q) hP (.inr rfl)
  simp only [c_LFun] at hr
  have hres : atL f (.node a ts) = un ((un (afC f ts) []).filter fun v => !decide (v ∈ binds x)) (uses x) := by
    rw [atL, ← hxe]
    refine un_ext (un_sorted _ _) fun y => ?_
    rw [mem_un, List.mem_filter, List.mem_filter, mem_un]
    simp
  rw [hres]
  have hAs := un_sorted (afC f ts) []
  generalize un (afC f ts) [] = A at *
  have hAl := hA.length
  simp [c66, evIdx_sl, ha.1, rds_ptr, hal, hcx, hr, bindsR_r x hfn]
  obtain ⟨L, hL⟩ := stages (fun l => l.filter fun v => !decide (v ∈ binds x)) A
  have L0 : L 0 = [] := by rw [hL]; rfl
  have Ls : ∀ k (hk : k < A.length), L (k + 1) = if A[k] ∈ binds x then L k else L k ++ [A[k]] := fun k hk => by
    rw [hL]; simp only; rw [take_succ' hk, List.filter_append]
    split
    · rename_i q; simp [q]
    · rename_i q; simp [q]
  have Ln : L A.length = A.filter fun v => !decide (v ∈ binds x) := by rw [hL]; simp
  have Ll : ∀ k, (L k).length ≤ 120 := fun k => by
    rw [hL]
    refine Nat.le_trans (List.length_filter_le _ _) ?_
    rw [List.length_take]; omega
  refine WK_loop tgrow (fun k s' h' => s' 9 = .int .i64 (k : Nat) ∧ h'.lo = 0 ∧ 1 ≤ h'.nx ∧ h'.row 0 = some (Enc.c x) ∧ ¬ nm (s' 8) 0 ∧ Acc h' (s' 8) 1 ((L k).map Enc.c).flatten (L k).length) A.length w66_0 (by decide) ⟨by simp, by simp, by simp, by simp, ?_, by simp [L0]; exact Acc.emp⟩ ?_
  · simp; rintro ⟨_, _, _, q⟩; cases q
  rintro k s1 h1 hk ⟨e9, lo1, hx1, r1, n1, ja⟩ hs1 hg1
  have f5 : s1 5 = .pt 0 0 := (hs1 5 (by decide)).trans (by simp)
  have f6 : s1 6 = sl A := (hs1 6 (by decide)).trans (by simp)
  have f7 : s1 7 = sl (binds x) := (hs1 7 (by decide)).trans (by simp)
  clear hs1 hg1
  have hk2 : k < 9223372036854775807 := by omega
  have l1 := Ll k
  by_cases hkl : k < A.length
  · have hls := Ls k hkl
    by_cases hin : A[k] ∈ binds x
    · rw [if_pos hin] at hls
      simp [c66_0, e9, f6, f7, hkl, evIdx_nat, rd1_ptr, inR45_r (binds x) A[k] (by omega), hin, hk2, hls]
      exact ⟨lo1, hx1, r1, n1, ja⟩
    · rw [if_neg hin] at hls
      simp [c66_0, e9, f6, f7, hkl, evIdx_nat, rd1_ptr, inR45_r (binds x) A[k] (by omega), hin, -WR_app]
      refine WR_app_acc (m := 1) (ys := [.int .i64 A[k]]) (by simpa using ja) (by simp; exact src_psl rfl) (by rfl) (by omega) (room (by omega)) (fun w h2 ha2 mv2 => ?_)
      simp at mv2
      have g2 := mv2.grow
      simp [e9, hk2, hls]
      refine ⟨by omega, by omega, ?_, mv_n0 hx1 n1 mv2, by simpa using ha2⟩
      rw [mv2.row (by omega) (nm_ne n1)]; exact r1
  have hkn : k = A.length := by omega
  have jrow := r1
  simp only [c_LNode] at jrow
  rw [hkn, Ln] at ja
  have hFs : (A.filter fun v => !decide (v ∈ binds x)).Pairwise (· < ·) := hAs.filter _
  have hFm : ∀ y ∈ A.filter (fun v => !decide (v ∈ binds x)), 0 ≤ y ∧ y < (f.vars.length : Int) := fun y hy => hA.2 y ((List.mem_filter.1 hy).1)
  generalize (A.filter fun v => !decide (v ∈ binds x)) = F at *
  simp [c66_0, e9, f5, f6, hkl, jrow, usesR_r x hfn]
  refine WK_loop tgrow (fun k s' h' => s' 11 = .int .i64 (k : Nat) ∧ h'.lo ≤ h'.nx ∧ Acc h' (s' 8) 1 ((un F ((uses x).take k)).map Enc.c).flatten (un F ((uses x).take k)).length) (uses x).length w66_1 (by decide) ⟨by simp, by omega, ?_⟩ ?_
  · rw [List.take_zero, un_nil hFs]; simpa using ja
  rintro j s2 h2 hj ⟨e11, lo2, jb⟩ hs2 hg2
  have g10 : s2 10 = sl (uses x) := (hs2 10 (by decide)).trans (by simp)
  clear hs2 hg2
  have hj2 : j < 9223372036854775807 := by omega
  by_cases hjl : j < (uses x).length
  · have hn : Nums f.vars.length (un F ((uses x).take j)) := un_nums hFm fun y hy => hu y (List.mem_of_mem_take hy)
    have hnl := hn.length
    simp [c66_1, e11, g10, hjl, evIdx_nat, rd1_ptr]
    refine put_own jb (un_sorted _ _) (by omega) lo2 (fun v' h3 ha3 lo3 lw3 => ?_)
    rw [un_step hjl] at ha3
    simp [e11, hj2, lw3]
    exact ha3
  · have hjn : j = (uses x).length := by omega
    rw [hjn, List.take_length] at jb
    simp [c66_1, e11, g10, hjl, jb.snap rfl]
theorem refAt_p (hf : FitF f) {sc : List Int} {t : Tr} (h : Ok f sc t) : Pure T 66 [.agg (Enc.c f), .int .i64 t.root] (sl (atL f t)) false := by
  induction h with
  | @node sc a ts ha hu hl hr hs hb ih =>
    have hv : ∀ k (hk : k < ts.length), Nums f.vars.length (atL f ts[k]) := fun k hk => atL_nums (hs k hk (by omega))
    have hU : ∀ y ∈ afC f ts, 0 ≤ y ∧ y < (f.vars.length : Int) := fun y hy => by
      rw [afC_eq] at hy
      obtain ⟨t, ht, hy⟩ := List.mem_flatMap.1 hy
      obtain ⟨j, hj, rfl⟩ := List.getElem_of_mem ht
      exact (hv j hj).2 y hy
    exact refAt_w hf ha (un_nums hU fun y q => by cases q) (fun v q => ⟨(hu v q).1, (hu v q).2.1⟩) (refAfter_p hf ha hl hr hv fun k hk => ih k hk (by omega))
end
end Go.Proofs.Ytbnfcdjlbabddaa

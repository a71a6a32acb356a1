/- The law LiveMoves, evaluated. -/
import Derived.Test.YtbnfcdjlbabddaaM6
set_option linter.unusedVariables false
set_option linter.unusedSimpArgs false
namespace Go.Proofs.Ytbnfcdjlbabddaa
open Go.Ev

theorem normal_no (f : LFun) (hf : FitF f) (he : f.extern = false) (ht : treeS f = none) : Pure T 21 [.agg (Enc.c f)] (.tup [.agg [.str ⟨#[]⟩, .int .i64 0, .int .i64 0, .sl 0 [], .sl 0 [], .int .i64 0, .bool false], .int .i64 3]) false := by
  obtain ⟨v, hv, hP⟩ := shaped_p f hf
  have hr := fun {o h d r κ s Q} => pureK_eq (o := o) (h := h) (d := d) (r := r) (κ := κ) (s := s) (Q := Q) hP (.inl rfl)
  refine ⟨c21, rfl, rfl, ?_⟩
  rcases hv with ⟨t, nd, vs, h1, h2, h3, rfl⟩ | ⟨h1, h2, rfl⟩ | ⟨l, l', h1, rfl⟩
  · simp [treeS, h1, h2, h3] at ht
  · rw [he] at h2; cases h2
  · simp only [c_LFun, he] at hr
    simp [c21, hr, he]
theorem gN_fit {f : LFun} {nd vs : List Int} {n : LNode} (h : FitN n) : FitN (gN f nd vs n) := by
  obtain ⟨h1, h2, h3, h4⟩ := h
  refine ⟨?_, ?_, ?_, ?_⟩
  · simp only [gN]; split
    · simpa using h1
    · exact h1
  · simp only [gN]; split
    · simpa using h2
    · exact h2
  · simp only [gN]; split
    · simpa using h3
    · exact h3
  · intro b hb
    simp only [gN] at hb
    split at hb
    · obtain ⟨b', hb', rfl⟩ := List.mem_map.1 hb
      simpa using h4 b' hb'
    · exact h4 b hb
theorem gF_fit {f : LFun} (hf : FitF f) {t : Tr} (ht : treeS f = some t) : FitF (gF f t.pre (bnd f t)) := by
  obtain ⟨hok, hroot, hnp, hsz, hpo⟩ := treeS_ok ht
  have hvn := tree_vn ht
  have hp0 := hpo.1
  have hp1 := hpo.2
  have v120 := hf.vars
  refine ⟨?_, by rw [gF_code, pre_len]; exact Nat.le_trans hsz hf.code, fun n hn => ?_⟩
  · have hN : Nums f.vars.length (nums f.params.toNat ++ bnd f t) := by
      refine ⟨List.nodup_append.2 ⟨?_, hvn.1, fun x hx y hy q => ?_⟩, fun x hx => ?_⟩
      · unfold nums
        exact List.pairwise_map.2 ((List.nodup_range (n := f.params.toNat)).imp fun h q => h (by omega))
      · have := (hvn.2 y hy).2.1
        unfold nums at hx
        obtain ⟨k, hk, rfl⟩ := List.mem_map.1 hx
        have := List.mem_range.1 hk
        omega
      · rcases List.mem_append.1 hx with q | q
        · unfold nums at q
          obtain ⟨k, hk, rfl⟩ := List.mem_map.1 q
          have := List.mem_range.1 hk
          omega
        · exact ⟨(hvn.2 x q).1, (hvn.2 x q).2.2⟩
    have := hN.length
    rw [List.length_append, nums_len] at this
    have h2 := gF_vars (f := f) (nd := t.pre) (vs := bnd f t) hpo
    omega
  · obtain ⟨a, ha, rfl⟩ := List.mem_map.1 (show n ∈ t.pre.map fun a => gN f t.pre (bnd f t) (nodeAt f a) from hn)
    have := pre_in' hok a ha
    exact gN_fit (hf.node _ (nodeAt_mem (by omega)))

theorem LiveMoves_p (f : LFun) : Pure T 5 [.agg (Enc.c f)] (.bool true) true := by
  refine ⟨c5, rfl, rfl, ?_⟩
  simp [c5, awake45_r, few45_r f]
  cases hfw : few45 f
  · simp
  have hf := few45_fit hfw
  have c80 := hf.code
  have v120 := hf.vars
  cases he : f.extern
  case true => simp [he]
  cases ht : treeS f with
  | none =>
    have h1 := fun {h d r κ s Q} => pureK_eq (o := false) (h := h) (d := d) (r := r) (κ := κ) (s := s) (Q := Q) (normal_no f hf he ht) (.inr rfl)
    obtain ⟨l, l', z, hP⟩ : ∃ l l' : List Int, ∃ z : Int, Pure T 22 [.agg (Enc.c f)] (.tup [sl l, sl l', .int .i64 z]) true := by
      rcases maps_err f hf ht with ⟨l, l', hP⟩ | ⟨_, l, l', hP⟩
      · exact ⟨_, _, _, hP⟩
      · exact ⟨_, _, _, hP⟩
    have h2 := fun {o h d r κ s Q} => pureK_eq (o := o) (h := h) (d := d) (r := r) (κ := κ) (s := s) (Q := Q) hP (.inl rfl)
    simp only [c_LFun, he] at h1 h2
    simp [he, h1, h2]
  | some t =>
    obtain ⟨hok, hroot, hnp, hsz, hpo⟩ := treeS_ok ht
    have hvn := tree_vn ht
    have hgf := gF_fit hf ht
    have htg := treeS_gF ht
    have hw := wid_gF ht
    have h1 := fun {h d r κ s Q} => pureK_eq (o := false) (h := h) (d := d) (r := r) (κ := κ) (s := s) (Q := Q) (normal_p f hf ht) (.inr rfl)
    have h2 := fun {o h d r κ s Q} => pureK_eq (o := o) (h := h) (d := d) (r := r) (κ := κ) (s := s) (Q := Q) (maps_tree f hf ht) (.inl rfl)
    have h3 := fun {o h d r κ s Q} => pureK_eq (o := o) (h := h) (d := d) (r := r) (κ := κ) (s := s) (Q := Q) (width_yes f hf ht) (.inl rfl)
    have h4 := fun {o h d r κ s Q} => pureK_eq (o := o) (h := h) (d := d) (r := r) (κ := κ) (s := s) (Q := Q) (width_yes _ hgf htg) (.inl rfl)
    rw [hw] at h4
    have hat : ∀ i, 0 ≤ idxOf t.pre i → ∃ l l' : List Int, (i, l) ∈ atM f t ∧ (idxOf t.pre i, l') ∈ atM (gF f t.pre (bnd f t)) (ren (idxOf t.pre) t) ∧ l'.length = l.length ∧ (∀ v ∈ l, kn f (bnd f t) v) ∧ (∀ v ∈ l, newNo f (bnd f t) v ∈ l') ∧ l.length ≤ 120 := fun i hi => by
      have hm := idxOf_ge.1 hi
      obtain ⟨sc', t', hok', hroot', hat', _⟩ := sub_at hok _ hm
      obtain ⟨l', q1, q2, q3, q4⟩ := atM_ren hnp hpo hvn hok (sub_all ht) _ hat'
      exact ⟨_, l', hat', q1, q2, q3, q4, by have := (atL_nums hok').length; omega⟩
    generalize gF f t.pre (bnd f t) = g at *
    simp only [c_LFun, he] at h1 h2 h3 h4
    simp [he, h1, h2, h3, h4]
    have hNl : (mapN f t.pre).length = f.code.length := by simp [mapN, nums_len]
    have hMl : (mapV f (bnd f t)).length = f.vars.length := by simp [mapV, nums_len]
    have hNg : ∀ k (h : k < (mapN f t.pre).length), (mapN f t.pre)[k] = idxOf t.pre (k : Nat) := fun k h => by simp [mapN, nums]
    have hMg : ∀ v : Int, 0 ≤ v → v < (f.vars.length : Int) → ∀ (h : v.toNat < (mapV f (bnd f t)).length), (mapV f (bnd f t))[v.toNat] = newNo f (bnd f t) v := fun v h0 h1 h => by simp [mapV, nums, Int.max_eq_left h0]
    generalize mapV f (bnd f t) = MV at *
    generalize mapN f t.pre = MN at *
    refine WK_loop tgrow (fun k s' h' => s' 12 = .int .i64 (k : Nat) ∧ h'.row 0 = some (Enc.c g)) MN.length w5_0 (by decide) ⟨by simp, by simp⟩ ?_
    rintro k s1 h1' hk ⟨e12, r0⟩ hs1 hg1
    have f1 : s1 1 = .pi (Enc.c f) := (hs1 1 (by decide)).trans (by simp [he])
    have f3 : s1 3 = .pt 0 0 := (hs1 3 (by decide)).trans (by simp)
    have f5 : s1 5 = sl MN := (hs1 5 (by decide)).trans (by simp)
    have f6 : s1 6 = sl MV := (hs1 6 (by decide)).trans (by simp)
    clear hs1 hg1
    have hk2 : k < 9223372036854775807 := by omega
    by_cases hkl : k < MN.length
    case neg => simp [c5_0, e12, f5, hkl]
    have hN := hNg k hkl
    by_cases h0 : MN[k] < 0
    · simp [c5_0, e12, f5, hkl, evIdx_nat, rd1_ptr, h0, hk2]
      exact r0
    obtain ⟨l, l', hl1, hl2, hl3, hl4, hl5, hl6⟩ := hat (k : Nat) (by rw [← hN]; omega)
    have k1 := fun {h d r κ s Q} => pureK_eq (o := false) (h := h) (d := d) (r := r) (κ := κ) (s := s) (Q := Q) (at_yes f hf (k : Int) ht hl1) (.inr rfl)
    rw [← hN] at hl2
    have k2 := fun {h d r κ s Q} => pureK_eq (o := false) (h := h) (d := d) (r := r) (κ := κ) (s := s) (Q := Q) (at_yes g hgf MN[k] htg hl2) (.inr rfl)
    have rg := r0
    simp only [c_LFun, he] at k1 k2 rg
    simp [c5_0, e12, f1, f3, f5, he, hkl, evIdx_nat, rd1_ptr, h0, k1, k2, rg, hl3]
    refine WK_loop tgrow (fun j s' h' => s' 17 = .int .i64 (j : Nat) ∧ h' = h1') l.length w5_1 (by decide) ⟨by simp, rfl⟩ ?_
    rintro j s2 h2' hj ⟨e17, rfl⟩ hs2 hg2
    have t6 : s2 6 = sl MV := (hs2 6 (by decide)).trans (by simp [f6])
    have t12 : s2 12 = .int .i64 (k : Nat) := (hs2 12 (by decide)).trans (by simp [e12])
    have t13 : s2 13 = sl l := (hs2 13 (by decide)).trans (by simp)
    have t15 : s2 15 = sl l' := (hs2 15 (by decide)).trans (by simp)
    clear hs2 hg2
    have hj2 : j < 9223372036854775807 := by omega
    by_cases hjl : j < l.length
    · have hkn := hl4 _ (List.getElem_mem hjl)
      have hin := hl5 _ (List.getElem_mem hjl)
      have hv2 : l[j].toNat < MV.length := by have := hkn.1; have := hkn.2.1; omega
      have hv := hMg _ hkn.1 hkn.2.1 hv2
      rw [← hv] at hin
      simp [c5_1, e17, t6, t13, t15, hjl, evIdx_nat, rd1_ptr, evIdx_sl, hkn.1, hv2, in45_r l' MV[l[j].toNat] (by omega), hin, hj2]
    · simp [c5_1, e17, t13, hjl, t12, hk2, hkl]
      exact r0
theorem law_liveMoves (x : shFun.den) (o : shFun.ok x ∧ shFun.small 1048576 x) : ∃ g, CE T 5 [.agg (shFun.pv x)] AH.zero (.bool true) g := by
  rw [mkFun_c]
  exact ⟨AH.zero, (LiveMoves_p (mkFun x)).ce (by simp) (.inl rfl)⟩
end Go.Proofs.Ytbnfcdjlbabddaa

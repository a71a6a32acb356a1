/- Live variables: the program's facts about a function. -/
import Derived.Test.YtbnfcdjlbabddaaD2
set_option linter.unusedVariables false
set_option linter.unusedSimpArgs false
namespace Go.Proofs.Ytbnfcdjlbabddaa
open Go.Ev

open Classical in
/-- The tree of a function that has one. -/
noncomputable def treeS (f : LFun) : Option Tr := if okP f ∧ f.extern = false then (shapeS f).map (·.1) else none
theorem treeS_some {f : LFun} {t : Tr} (h : treeS f = some t) : okP f ∧ f.extern = false ∧ ∃ nd vs, shapeS f = some (t, nd, vs) := by
  unfold treeS at h
  split at h
  · rename_i hc
    simp only [Option.map_eq_some_iff] at h
    obtain ⟨⟨t', nd, vs⟩, h1, rfl⟩ := h
    exact ⟨hc.1, hc.2, nd, vs, h1⟩
  · cases h
theorem treeS_ok {f : LFun} {t : Tr} (h : treeS f = some t) : Ok f [] t ∧ t.root = f.body ∧ t.pre.Nodup ∧ t.size ≤ f.code.length ∧ okP f := by
  obtain ⟨h1, h2, nd, vs, h3⟩ := treeS_some h
  obtain ⟨a1, a2, _, _, a5, a6⟩ := shapeS_ok h3
  exact ⟨a1, a2, a5, a6, h1⟩

section
variable {d : Option Nat} {r : List COper} {κ : List KF} {s : Fr} {Q : Fr → AH → Prop}
theorem maps_err (f : LFun) (hf : FitF f) (hn : treeS f = none) : (∃ l l' : List Int, Pure T 22 [.agg (Enc.c f)] (.tup [sl l, sl l', .int .i64 3]) true) ∨ (f.extern = true ∧ ∃ l l' : List Int, Pure T 22 [.agg (Enc.c f)] (.tup [sl l, sl l', .int .i64 0]) true) := by
  obtain ⟨v, hv, hP⟩ := maps_p f hf
  rcases hv with ⟨t, nd, vs, h1, h2, h3, rfl⟩ | ⟨h1, h2, rfl⟩ | ⟨h1, rfl⟩
  · simp [treeS, h1, h2, h3] at hn
  · exact .inr ⟨h2, _, _, hP⟩
  · exact .inl ⟨_, _, hP⟩

theorem of_no (f : LFun) (hf : FitF f) (hn : treeS f = none) (next : WR T r κ (Fr.put s d (.tup [.nilp, .int .i64 3])) AH.zero Q) : callK T 33 [.agg (Enc.c f)] AH.zero d r κ s Q := by
  refine callK_shared (c := c33) rfl rfl rfl ?_
  rcases maps_err f hf hn with ⟨l, l', hP⟩ | ⟨he, l, l', hP⟩
  · have hr := fun {o h d r κ s Q} => pureK_eq (o := o) (h := h) (d := d) (r := r) (κ := κ) (s := s) (Q := Q) hP (.inl rfl)
    simp only [c_LFun] at hr
    simp [c33, hr]
    exact next
  · have hr := fun {o h d r κ s Q} => pureK_eq (o := o) (h := h) (d := d) (r := r) (κ := κ) (s := s) (Q := Q) hP (.inl rfl)
    simp only [c_LFun, he] at hr
    simp [c33, hr, he]
    exact next

theorem of_yes (f : LFun) (hf : FitF f) {t : Tr} (ht : treeS f = some t)
    (next : ∀ h' ix pv sv, LM f ix pv (atM f t) (afM f t) (setsL f t) sv h' → WR T r κ (Fr.put s d (.tup [.pt 2 0, .int .i64 0])) h' Q) : callK T 33 [.agg (Enc.c f)] AH.zero d r κ s Q := by
  refine callK_shared (c := c33) rfl rfl rfl ?_
  obtain ⟨hok, hroot, hnp, hsz, hp⟩ := treeS_ok ht
  have c80 := hf.code
  have v120 := hf.vars
  obtain ⟨v, hv, hP⟩ := maps_p f hf
  obtain ⟨hokp, hext, nd, vs, hS⟩ := treeS_some ht
  obtain ⟨l, l', rfl⟩ : ∃ l l' : List Int, v = .tup [sl l, sl l', .int .i64 0] := by
    rcases hv with ⟨t, nd, vs, h1, h2, h3, rfl⟩ | ⟨h1, h2, _⟩ | ⟨h1, rfl⟩
    · exact ⟨_, _, rfl⟩
    · rw [hext] at h2; cases h2
    · rcases h1 with q | q
      · exact absurd hokp q
      · rw [hS] at q; cases q.2
  have hr := fun {o h d r κ s Q} => pureK_eq (o := o) (h := h) (d := d) (r := r) (κ := κ) (s := s) (Q := Q) hP (.inl rfl)
  simp only [c_LFun, hext] at hr
  obtain ⟨P, hPp⟩ : ∃ P : Nat, f.params = (P : Nat) := ⟨f.params.toNat, by have := hp.1; omega⟩
  have hPv : P ≤ f.vars.length := by have := hp.2; omega
  have hPt : f.params.toNat = P := by omega
  simp [c33, hr, hext]
  refine WK_range tgrow (fun k s' h' => h'.lo = 0 ∧ 4 ≤ h'.nx ∧ h'.blk 0 = some (mpI []) ∧ h'.blk 1 = some (mpI []) ∧ h'.row 2 = some [.mp 0, .mp 1, .emp] ∧ h'.row 3 = some [.pt 2 0] ∧ Acc h' (s' 8) 1 ((nums k).map Enc.c).flatten k ∧ ∀ i, nm (s' 8) i → 4 ≤ i) P w33_0 rfl (by decide) (by simp) (by simp [hPp]) (by omega) (by decide) (fun k s1 h1 s2 j hne => by rw [hne 8 (by decide) (by decide) (by decide)]; exact j) ?_ ?_ ?_
  · simp
    exact ⟨rfl, Acc.emp, fun i ⟨_, _, _, q⟩ => (by cases q)⟩
  · rintro k s' h' hk ⟨j1, j2, j3, j4, j5, j6, ja, jn⟩ hi hs hg
    simp [hi, -WR_app]
    refine WR_app_acc (cs := ((nums k).map Enc.c).flatten) (n := k) (m := 1) (ys := [.int .i64 (k : Int)]) (by simpa using ja) (by simp; exact src_psl rfl) (by rfl) (by omega) (room (by omega)) (fun w4 h4 ha4 hm4 => ?_)
    try simp at hm4
    have g4 := hm4.grow
    have hb : ∀ i, i < 4 → h4.blk i = h'.blk i := fun i hi => hm4.blk (by omega) fun z o n e => by have := jn i ⟨z, o, n, e⟩; omega
    have hrw : ∀ i, i < 4 → h4.row i = h'.row i := fun i hi => by simp only [AH.row, hb i hi]
    have e : ((nums k).map Enc.c).flatten ++ [PV.int .i64 (k : Int)] = ((nums (k + 1)).map Enc.c).flatten := by
      have : nums (k + 1) = nums k ++ [(k : Int)] := by simp [nums, List.range_succ]
      rw [this]; simp
    rw [e] at ha4
    simp [hi]
    refine ⟨by omega, by omega, (hb 0 (by omega)).trans j3, (hb 1 (by omega)).trans j4, (hrw 2 (by omega)).trans j5, (hrw 3 (by omega)).trans j6, ha4, ?_⟩
    rintro i ⟨z, o, n, rfl⟩
    rcases hm4.2 with q | q | ⟨z', i', o', n', q, hi'⟩
    · exact jn i ⟨z, o, n, q.symm⟩
    · cases q
    · cases q; omega
  · rintro s' h' ⟨j1, j2, j3, j4, j5, j6, ja, jn⟩ hs hg
    have f1 : s' 1 = .pi (Enc.c f) := (hs 1 (by decide)).trans (by simp [hext])
    have f7 : s' 7 = .pt 3 0 := (hs 7 (by decide)).trans (by simp)
    obtain ⟨pv, epv⟩ : ∃ v, v = s' 8 := ⟨_, rfl⟩
    rw [← epv] at ja jn
    have hone := ja.one
    simp [f7, ← epv, j5, j6, evNilchk_pt, hone, -WR_app, -WR_appS]
    rw [WR_appS_eq (sep_ok fun t ht i hi2 => by simp at hi2)]
    refine WR_app_acc (cs := []) (n := 0) (m := 1) (ys := [pv]) (by simpa using Acc.emp) (by simp; exact src_psl rfl) (by rfl) (by omega) (room (by omega)) (fun w7 h7 ha7 hm7 => ?_)
    try simp at hm7
    have g7 := hm7.grow
    have hb : ∀ i, i < h'.nx → h7.blk i = h'.blk i := fun i hi => hm7.blk hi fun z o n e => by cases e
    have hrw : ∀ i, i < h'.nx → h7.row i = h'.row i := fun i hi => by simp only [AH.row, hb i hi]
    have hn7 : ∀ i, nm w7 i → h'.nx ≤ i := by
      rintro i ⟨z, o, n, rfl⟩
      rcases hm7.2 with q | q | ⟨z', i', o', n', q, hi'⟩
      · cases q
      · cases q
      · cases q; exact hi'
    have ha7' : Acc h7 w7 1 (pv :: (([] : List (List Int)).map Enc.c).flatten) (([] : List (List Int)).length + 1) := by simpa using ha7
    have hx7 : 4 ≤ h7.nx := by omega
    have r2 := (hrw 2 (by omega)).trans j5
    have r3 := (hrw 3 (by omega)).trans j6
    have b0 := (hb 0 (by omega)).trans j3
    have b1 := (hb 1 (by omega)).trans j4
    have pa7 : Acc h7 pv 1 ((nums P).map Enc.c).flatten P := (ja.mv hm7 (Apart.emp' _))
    have lo7 : h7.lo = 0 := by omega
    have ap7 : Apart pv w7 := fun z o n i z' o' n' e e' => by
      have h1 := acc_lt ja ⟨_, _, _, e⟩
      have h2 := hn7 i ⟨_, _, _, e'⟩
      omega
    have n3 : ¬ 3 = h7.nx := by omega
    have n2 : ¬ 2 = h7.nx := by omega
    simp [r2, evNilchk_pt, ha7.one, lo7, f1, f7, n3]
    have hvb : 52 < vb := by decide
    refine ⟨hvb, ?_⟩
    refine Eq.mp (congrArg (fun b => callK T 52 [.int .i64 b, .pi (Enc.c f), .pt h7.nx 0, .pt 3 0] _ _ _ _ _ _) hroot) ?_
    refine lv_c hf t.size t [] [] [] [] w7 (ix := h7.nx) (pv := pv) (Nat.le_refl _) hok ?_ (fun p hp => by cases hp) (fun p hp => by cases hp) (by simp) hnp (by simp; omega) (fun h9 sv9 m9 g9 => ?_)
    · refine ⟨by simp [lo7], hx7, by simp, ?_, ?_, ?_, ?_, ?_, ?_, fun i q => ?_, ?_, fun i q => ?_, ap7⟩
      · rw [blk_push, if_neg (by simp; omega), blk_set, if_neg (by omega)]; exact b0
      · rw [blk_push, if_neg (by simp; omega), blk_set, if_neg (by omega)]; exact b1
      · simp [n2]
      · simp [n3, r3]
      · simp
      · exact (ha7'.set _ fun z o n e => by have := hn7 2 ⟨z, o, n, e⟩; omega).push _
      · have := hn7 i q
        have := acc_lt ha7' q
        omega
      · rw [hPt]
        exact (pa7.set _ fun z o n e => by have := jn 2 ⟨z, o, n, e⟩; omega).push _
      · have := jn i q
        have := acc_lt pa7 q
        omega
    · have f7' := f7
      simp [f7, m9.r3]
      exact next _ _ _ _ m9
end
end Go.Proofs.Ytbnfcdjlbabddaa

/- The law BlocksJoined, evaluated. -/
import Derived.Test.YtpdgjdnipkmocaaP6
import Derived.Test.YtpdgjdnipkmocaaJ11
set_option linter.unusedVariables false
set_option linter.unusedSimpArgs false
namespace Go.Proofs.Ytpdgjdnipkmocaa
open Go.Ev

theorem size_p (p : LProc) (hp : FitP p) : Pure T 24 [.agg (Enc.c p)] (.int .i64 (szP p : Nat)) true := by
  refine ⟨c24, rfl, rfl, ?_⟩
  have h1 := hp.1
  simp [c24]
  refine WK_range tgrow (fun k s h => s 3 = .int .i64 (((p.blocks.take k).map fun b => b.code.length).sum : Nat) ∧ ((p.blocks.take k).map fun b => b.code.length).sum ≤ k * 1000) p.blocks.length w24_0 rfl (by decide) (by simp) (by simp) (by omega) (by decide) (fun k s1 h1 s2 j hne => by rw [hne 3 (by decide) (by decide) (by decide)]; exact j) (by simp) ?_ ?_
  · rintro k s' h' hk ⟨j1, j2⟩ hi hs hg
    have f7 : s' 7 = sl p.blocks := (hs 7 (by decide)).trans (by simp)
    have hlw' : h'.lo ≤ h'.nx := hg.low (by simp)
    have hb := (hp.2 _ (List.getElem_mem hk)).1
    have hsum : ((p.blocks.take (k + 1)).map fun b => b.code.length).sum = ((p.blocks.take k).map fun b => b.code.length).sum + p.blocks[k].code.length := by
      rw [List.take_succ_eq_append_getElem hk, List.map_append, List.sum_append]; simp
    have hw : IntKind.i64.wrap ((((p.blocks.take k).map fun b => b.code.length).sum : Nat) + (p.blocks[k].code.length : Int)) = ((((p.blocks.take (k + 1)).map fun b => b.code.length).sum : Nat) : Int) := by
      rw [w64 (by omega), hsum]; omega
    have hle : ((p.blocks.take (k + 1)).map fun b => b.code.length).sum ≤ (k + 1) * 1000 := by omega
    generalize ((p.blocks.take (k + 1)).map fun b => b.code.length).sum = t2 at *
    generalize ((p.blocks.take k).map fun b => b.code.length).sum = t1 at *
    simp [hi, f7, evIdx_nat, rds_ptr, hk, hlw', j1, hw]
    omega
  · rintro s' h' ⟨j1, j2⟩ hs hg
    rw [List.take_length] at j1
    simp [j1, szP]
theorem size_r (p : LProc) (hp : FitP p) {o : Bool} {h : AH} {d : Option Nat} {r : List COper} {κ : List KF} {s : Fr} {Q : Fr → AH → Prop} : pureK T 24 (some [.agg [PV.str p.name, sl p.params, PV.int .i64 p.result, sl p.sig.params, PV.str p.sig.base, sl p.sig.result, PV.str p.sig.rest, sl p.blocks, PV.bool p.extern]]) o h d r κ s Q = WR T r κ (Fr.put s d (.int .i64 (szP p : Nat))) h Q := pureK_eq (size_p p hp) (.inl rfl)

theorem BlocksJoined_p (p : LProc) (hs : Smc.sm 1048576 p) : Pure T 6 [.agg (Enc.c p)] (.bool true) true := by
  refine ⟨c6, rfl, rfl, ?_⟩
  simp [c6, few_r p]
  cases hf : fewP p
  · simp [awake_r]
  have hp := fit_of hf hs
  cases hl : laid p
  · simp [Tidy_r p hp, hl, Join_not p hp.1 hl, zeroP, awake_r]
  have hj : JFit p := ⟨hp, hl, few_wide hf⟩
  obtain ⟨K, hst⟩ := stops_ex hj
  have hjK := joinK_fit hj K
  have htj := tidy_jfit hjK
  have hct := fitC_of htj.fit
  have e1 := fun {h d r κ s Q} => Join_r (h := h) (d := d) (r := r) (κ := κ) (s := s) (Q := Q) p hj hst
  have e2 := fun {h d r κ s Q} => Join_r (h := h) (d := d) (r := r) (κ := κ) (s := s) (Q := Q) (tidyP (joinK K p)) htj (tidy_stops hjK hst.1)
  rw [show joinK 0 (tidyP (joinK K p)) = tidyP (joinK K p) from rfl, tidy_tidy hjK.la] at e2
  have e3 := fun {h d r κ s Q} => Tidy_r (h := h) (d := d) (r := r) (κ := κ) (s := s) (Q := Q) p hp
  rw [hl, if_pos rfl] at e3
  have ht := tidyP_fit hp
  have s1 : szP (tidyP (joinK K p)) + K = szP (tidyP p) := by rw [szP_tidy, szP_tidy]; exact joinK_wide hj hst.2
  have s2 : (tidyP (joinK K p)).blocks.length + K = (tidyP p).blocks.length := by rw [tidy_len, tidy_len]; exact joinK_len hj hst.2
  have s3 : szP (tidyP p) ≤ 1000 := by rw [szP_tidy]; exact hj.wd
  have s4 := ht.1.1
  generalize tidyP (joinK K p) = j at *
  generalize tidyP p = t at *
  have w1 : IntKind.i64.wrap ((t.blocks.length : Int) - K) = j.blocks.length := by rw [w64 (by omega)]; omega
  have w2 : IntKind.i64.wrap ((szP t : Int) - K) = szP j := by rw [w64 (by omega)]; omega
  simp [e1, e2, e3, size_r j htj.fit.1, size_r t ht.1, w1, w2, sameProc_r j j hct hct, eqv_refl, awake_r, (by decide : 24 < vb)]

theorem law_blocksJoined (x : shProc.den) (o : shProc.ok x ∧ shProc.small 1048576 x) : ∃ g, CE T 6 [.agg (shProc.pv x)] AH.zero (.bool true) g := by
  rw [mkProc_c]
  exact ⟨AH.zero, (BlocksJoined_p (mkProc x) (mkProc_sm x o.2)).ce (by simp) (.inl rfl)⟩
end Go.Proofs.Ytpdgjdnipkmocaa

/- The reference's 'count'. -/
import Derived.Test.YtpdgjdnipkmocaaP5
set_option linter.unusedVariables false
set_option linter.unusedSimpArgs false
namespace Go.Proofs.Ytpdgjdnipkmocaa
open Go.Ev

theorem count_in (b : Int) (l : List Int) (hl : l.length ≤ 1000) (n : Nat) (hn : n ≤ 10000000) {κ : List KF} {s : Fr} {h : AH} {Q : Fr → AH → Prop} (e1 : s 1 = .int .i64 b) (e8 : s 8 = sl l) (e9 : s 9 = .int .i64 0) (e5 : s 5 = .int .i64 (n : Nat))
    (next : ∀ s' h', (∀ t, t ∉ w70_1 → s' t = s t) → Grow h h' → s' 5 = .int .i64 ((n + l.count b : Nat) : Int) → WK T .skip κ s' h' Q) : WK T (.loop c70_1) (.block 2 :: κ) s h Q := by
  refine WK_loop tgrow (fun k s' h' => s' 9 = .int .i64 (k : Nat) ∧ s' 5 = .int .i64 ((n + (l.take k).count b : Nat) : Int)) l.length w70_1 (by decide) ⟨by simp [e9], by simpa using e5⟩ ?_
  rintro k s' h' hk ⟨e9, j1⟩ hs hg
  have f1 : s' 1 = .int .i64 b := (hs 1 (by decide)).trans e1
  have f8 : s' 8 = sl l := (hs 8 (by decide)).trans e8
  simp [c70_1, e9, f8]
  refine condS_split (fun hkl => ?_) (fun hkl => ?_) <;> simp at hkl
  · have e2 : (l.take (k + 1)).count b = (l.take k).count b + if l[k] = b then 1 else 0 := by
      rw [take_succ' hkl, List.count_append, List.count_singleton]
      simp
    have hcl := List.count_le_length (a := b) (l := l.take k)
    rw [List.length_take] at hcl
    generalize hm : n + (l.take k).count b = m at *
    have hm2 : (m : Nat) < 9223372036854775807 := by omega
    have hk2 : k < 9223372036854775807 := by omega
    generalize hx : l[k] = x at *
    simp [e9, f1, f8, evIdx_nat, rd1_ptr, hkl, hx]
    by_cases hb : x = b
    · rw [if_pos hb] at e2
      simp [hb, j1, hm2, e9, hk2, hkl]
      omega
    · rw [if_neg hb] at e2
      simp [hb, j1, e9, hk2, hkl]
      omega
  · have hkn : k = l.length := by omega
    subst hkn
    rw [List.take_length] at j1
    simp
    refine next _ _ (fun t ht => ?_) hg (by simp [j1])
    have := hs t ht
    simp [w70_1] at ht
    simp [ht, this]

theorem count_p (p : LProc) (hp : FitP p) (hl : laid p = true) (b : Int) : Pure T 70 [.agg (Enc.c p), .int .i64 b] (.int .i64 (cntB p b)) true := by
  refine ⟨c70, rfl, rfl, ?_⟩
  have hlp := laid_true hl
  have hN := order_nums p
  have hol := hN.length
  have hp1 := hp.1
  simp [c70, preorderR_r p hp, hl]
  refine WK_loop tgrow (fun k s' h' => s' 7 = .int .i64 (k : Nat) ∧ s' 5 = .int .i64 (((((order p).take k).flatMap (succ p)).count b : Nat) : Int) ∧ (((order p).take k).flatMap (succ p)).count b ≤ k * 1000) (order p).length w70_0 (by decide) ⟨by simp, by simp, by simp⟩ ?_
  rintro k s' h' hk ⟨e7, j1, j2⟩ hs hg
  have f1 : s' 1 = .int .i64 b := (hs 1 (by decide)).trans (by simp)
  have f2 : s' 2 = .pi (Enc.c p) := (hs 2 (by decide)).trans (by simp)
  have f6 : s' 6 = sl (order p) := (hs 6 (by decide)).trans (by simp)
  simp [c70_0, e7, f6]
  refine condS_split (fun hkl => ?_) (fun hkl => ?_) <;> simp at hkl
  · obtain ⟨a0, a1⟩ := hN.2 _ (List.getElem_mem hkl)
    have e2 : (((order p).take (k + 1)).flatMap (succ p)).count b = (((order p).take k).flatMap (succ p)).count b + (succ p (order p)[k]).count b := by
      rw [take_succ' hkl, List.flatMap_append, List.count_append]
      simp
    have hk2 : k < 9223372036854775807 := by omega
    generalize hm : (((order p).take k).flatMap (succ p)).count b = m at *
    generalize ha : (order p)[k] = a at *
    have hb : a.toNat < p.blocks.length := by omega
    have hbm := List.getElem_mem hb
    generalize hbb : p.blocks[a.toNat] = B at hbm
    have fb := hp.2 B hbm
    have hsu : succ p a = Go.Proofs.Ytpdgjdnipkmocaa.next B := by simp [succ, hb, hbb]
    have hsl := succ_fit hp a
    rw [hsu] at e2 hsl
    have hcl := List.count_le_length (a := b) (l := Go.Proofs.Ytpdgjdnipkmocaa.next B)
    simp [e7, f2, f6, evIdx_nat, rd1_ptr, hkl, ha, evIdx_sl, a0, hb, rds_ptr, hbb, nextR_r B fb]
    refine count_in b (Go.Proofs.Ytpdgjdnipkmocaa.next B) hsl m (by omega) (by simp [f1]) (by simp) (by simp) (by simp [j1]) (fun s2 h2 hs2 hg2 g5 => ?_)
    have g7 : s2 7 = .int .i64 (k : Nat) := (hs2 7 (by decide)).trans (by simp [e7])
    simp [g5, g7, hk2, hkl]
    omega
  · have hkn : k = (order p).length := by omega
    subst hkn
    rw [List.take_length] at j1
    simp [j1, cntB]
theorem count_r (p : LProc) (hp : FitP p) (hl : laid p = true) (b : Int) {o : Bool} {h : AH} {d : Option Nat} {r : List COper} {κ : List KF} {s : Fr} {Q : Fr → AH → Prop} : pureK T 70 (some [.agg [PV.str p.name, sl p.params, PV.int .i64 p.result, sl p.sig.params, PV.str p.sig.base, sl p.sig.result, PV.str p.sig.rest, sl p.blocks, PV.bool p.extern], .int .i64 b]) o h d r κ s Q = WR T r κ (Fr.put s d (.int .i64 (cntB p b))) h Q := pureK_eq (count_p p hp hl b) (.inl rfl)
end Go.Proofs.Ytpdgjdnipkmocaa

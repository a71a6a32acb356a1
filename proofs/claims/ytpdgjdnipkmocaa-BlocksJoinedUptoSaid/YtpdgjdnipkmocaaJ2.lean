/- The program's 'joint', evaluated. -/
import Derived.Test.YtpdgjdnipkmocaaJ1
set_option linter.unusedVariables false
set_option linter.unusedSimpArgs false
namespace Go.Proofs.Ytpdgjdnipkmocaa
open Go.Ev

section
variable {h : AH} {d : Option Nat} {r : List COper} {κ : List KF} {s : Fr} {Q : Fr → AH → Prop} {o : Bool}

theorem all_p (p : LProc) (hp : FitP p) (hl : laid p = true) : Pure T 32 [.agg (Enc.c p)] (sl (order p)) false := by
  refine ⟨c32, rfl, rfl, ?_⟩
  simp [c32]
  have hx := (laid_true hl).1
  refine condS_split (fun hc => ?_) (fun hc => ?_) <;> simp at hc
  · have he : order p = [] := by simp [order, hx.2 hc]
    simp [he]
  · have he : p.extern = false := by
      cases e : p.extern
      · rfl
      · exact absurd (hx.1 e) hc
    have hpos := laid_pos hl he
    simp
    refine preorder_c p hp (laid_In (laid_true hl)) [0] (fun x hx => by rw [List.mem_singleton.1 hx]; omega) (by simp) (by simp) (fun v h' ha hk hn => ?_)
    have : order p = fromS p [0] := by simp [order, hl, he, fromS]
    rw [← this] at ha
    simp [ha.snap rfl]
theorem all_r (p : LProc) (hp : FitP p) (hl : laid p = true) : pureK T 32 (some [.agg [PV.str p.name, sl p.params, PV.int .i64 p.result, sl p.sig.params, PV.str p.sig.base, sl p.sig.result, PV.str p.sig.rest, sl p.blocks, PV.bool p.extern]]) false h d r κ s Q = WR T r κ (Fr.put s d (sl (order p))) h Q := pureK_eq (all_p p hp hl) (.inr rfl)

/-- What 'joint' answers. -/
noncomputable def jointS (p : LProc) : Option Int := (order p).find? (jointAt p)

theorem succ_fit {p : LProc} (hp : FitP p) (a : Int) : (succ p a).length ≤ 1000 := jump_len hp a

theorem joint_in1 (p : LProc) (hp : FitP p) (b : Int) (l : List Int) (hl : l.length ≤ 1000) (hin : ∀ x ∈ l, 0 ≤ x ∧ x < (p.blocks.length : Int)) (e1 : s 1 = .pi (Enc.c p)) (e62 : s 62 = sl l) (e63 : s 63 = .int .i64 (l.length : Int)) (e64 : s 64 = .int .i64 0) (e9 : s 9 = .int .i64 b) (e10 : s 10 = .int .i64 0)
    (more : ∀ s' h', (∀ t, t ∉ w47_1 → s' t = s t) → Grow h h' → 1 < (l.flatMap (succ p)).count b → WK T (.exit 1) κ s' h' Q)
    (next : ∀ s' h', (∀ t, t ∉ w47_1 → s' t = s t) → Grow h h' → (l.flatMap (succ p)).count b ≤ 1 → WK T .skip κ s' h' Q) : WK T (.loop c47_1) (.block 2 :: κ) s h Q := by
  refine WK_range tgrow (fun (k : Nat) (s' : Fr) (h' : AH) => s' 10 = .int .i64 ((((l.take k).flatMap (succ p)).count b : Nat) : Int) ∧ ((l.take k).flatMap (succ p)).count b ≤ 1) l.length w47_1 rfl (by decide) e64 e63 (by omega) (by decide) (fun k s1 h1 s2 j hne => by rw [hne 10 (by decide) (by decide) (by decide)]; exact j) ⟨by simpa using e10, by simp⟩ ?_ ?_
  · rintro k s' h' hk ⟨j1, j2⟩ hi hs hg
    have f1 : s' 1 = .pi (Enc.c p) := (hs 1 (by decide)).trans e1
    have f62 : s' 62 = sl l := (hs 62 (by decide)).trans e62
    have f9 : s' 9 = .int .i64 b := (hs 9 (by decide)).trans e9
    obtain ⟨a0, a1⟩ := hin _ (List.getElem_mem hk)
    have e := List.count_append (a := b) (l₁ := (l.take (k + 1)).flatMap (succ p)) (l₂ := (l.drop (k + 1)).flatMap (succ p))
    rw [← List.flatMap_append, List.take_append_drop] at e
    have e2 : ((l.take (k + 1)).flatMap (succ p)).count b = ((l.take k).flatMap (succ p)).count b + (succ p l[k]).count b := by
      rw [take_succ' hk, List.flatMap_append, List.count_append]
      simp
    generalize hm : ((l.take k).flatMap (succ p)).count b = m at *
    generalize ha : l[k] = a at *
    have hb : a.toNat < p.blocks.length := by omega
    have hbm := List.getElem_mem hb
    generalize hbb : p.blocks[a.toNat] = B at hbm
    have fb := hp.2 B hbm
    have hsu : succ p a = Go.Proofs.Ytpdgjdnipkmocaa.next B := by simp [succ, hb, hbb]
    have hsl := succ_fit hp a
    rw [hsu] at e2 hsl
    simp [hi, f1, f62, evIdx_nat, rd1_ptr, hk, ha, evIdx_sl, a0, hb, rds_ptr, hbb, next_r B fb]
    refine joint_in b (Go.Proofs.Ytpdgjdnipkmocaa.next B) hsl m j2 (by simp) (by simp) (by simp) (by simp [f9]) (by simp [j1]) (fun s2 h2 hs2 hg2 hmore => ?_) (fun s2 h2 hs2 hg2 g10 hle => ?_)
    · simp
      refine more _ _ (fun t ht => ?_) (hg.trans (by simpa using hg2)) (by omega)
      rw [hs2 t (fun q => ht ?_)]
      · have := hs t ht
        simp [w47_1] at ht
        simp [ht, this]
      · simp [w47_2, w47_1] at q ⊢
        omega
    · have g64 : s2 64 = .int .i64 (k : Nat) := (hs2 64 (by decide)).trans (by simp [hi])
      simp [g10, g64]
      omega
  · rintro s' h' ⟨j1, j2⟩ hs hg
    rw [List.take_length] at j2
    exact next s' h' hs hg j2
end
end Go.Proofs.Ytpdgjdnipkmocaa

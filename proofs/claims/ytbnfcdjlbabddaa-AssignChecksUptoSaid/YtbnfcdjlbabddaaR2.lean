/- Chapter 46: the program's memory while registers are given out; the closures of 'Registers'. -/
import Derived.Test.YtbnfcdjlbabddaaR1
set_option linter.unusedVariables false
set_option linter.unusedSimpArgs false
namespace Go.Proofs.Ytbnfcdjlbabddaa
open Go.Ev

structure RM (f : LFun) (o : Int → Int) (h : AH) : Prop where
  lo : h.lo = 0
  nx : 4 ≤ h.nx
  lt : ∀ v, o v < 16
  r0 : h.row 0 = some (ils f.vars.length o)
  r1 : h.row 1 = some [.rf 1 0 0 f.vars.length]
  r2 : h.row 2 = some [.fn 45 [] [.pi (Enc.c f), .pt 1 0]]
  r3 : h.row 3 = some [.fn 46 [] [.pi (Enc.c f), .pt 2 0, .pt 3 0]]
theorem RM.push {f : LFun} {o : Int → Int} {h : AH} (m : RM f o h) (cs : List PV) : RM f o (h.push (.cells cs)) := by
  have hx := m.nx
  have e : ∀ i, i < 4 → (h.push (.cells cs)).row i = h.row i := fun i hi => by rw [row_push, if_neg (by omega)]
  exact ⟨m.lo, Nat.le_succ_of_le hx, m.lt, (e 0 (by omega)).trans m.r0, (e 1 (by omega)).trans m.r1, (e 2 (by omega)).trans m.r2, (e 3 (by omega)).trans m.r3⟩
theorem RM.set {f : LFun} {o : Int → Int} {h : AH} (m : RM f o h) {j : Nat} (hj : 4 ≤ j) (cs : List PV) : RM f o (h.set j (.cells cs)) := by
  have e : ∀ i, i < 4 → (h.set j (.cells cs)).row i = h.row i := fun i hi => by rw [row_set, if_neg (by omega)]
  exact ⟨m.lo, m.nx, m.lt, (e 0 (by omega)).trans m.r0, (e 1 (by omega)).trans m.r1, (e 2 (by omega)).trans m.r2, (e 3 (by omega)).trans m.r3⟩
theorem RM.out {f : LFun} {o : Int → Int} {h : AH} (m : RM f o h) {v : Int} (h0 : 0 ≤ v) {q : Int} (hq : q < 16) : RM f (fun i => if i = v then q else o i) (h.set 0 (.cells ((ils f.vars.length o).set v.toNat (.int .i64 q)))) := by
  have e : ∀ i, i ≠ 0 → (h.set 0 (.cells ((ils f.vars.length o).set v.toNat (.int .i64 q)))).row i = h.row i := fun i hi => by rw [row_set, if_neg hi]
  refine ⟨m.lo, m.nx, fun i => ?_, by rw [row_set, if_pos rfl, ils_setI h0], (e 1 (by omega)).trans m.r1, (e 2 (by omega)).trans m.r2, (e 3 (by omega)).trans m.r3⟩
  split
  · exact hq
  · exact m.lt i
theorem ils_getI {n : Nat} {k : Int} {p : Int → Int} (h0 : 0 ≤ k) (hk : k.toNat < n) : (ils n p)[k.toNat]? = some (.int .i64 (p k)) := by
  rw [ils_get hk, Int.toNat_of_nonneg h0]
theorem evIxp_pt {l z i o : Nat} {k : IntKind} {x : Int} (h0 : 0 ≤ x) (h1 : x < (l : Int)) : evIxp l z (.pt i o) (.int k x) = some (.pt i (o + x.toNat * z)) := by
  show (if 0 ≤ x ∧ x < (l : Int) then _ else _) = _
  rw [if_pos ⟨h0, h1⟩, evFld_pt]
theorem busyP_nil (o : Int → Int) : busyP o [] = fun _ => false := by funext r; simp [busyP]
theorem busyP_yes {o : Int → Int} {l : List Int} {v : Int} (h0 : 0 ≤ o v) : (fun i => if i = o v then true else busyP o l i) = busyP o (l ++ [v]) := by
  funext r
  simp only [busyP, List.any_append, List.any_cons, List.any_nil, Bool.or_false]
  by_cases h : r = o v
  · simp [h, h0]
  · have h' : ¬ o v = r := fun q => h q.symm
    simp [h, h']
theorem busyP_no {o : Int → Int} {l : List Int} {v : Int} (h0 : o v < 0) : busyP o (l ++ [v]) = busyP o l := by
  funext r
  have : ¬ 0 ≤ o v := by omega
  simp [busyP, this]

section
variable {f : LFun} {o : Int → Int} {h : AH} {d : Option Nat} {r : List COper} {κ : List KF} {s : Fr} {Q : Fr → AH → Prop}

theorem put46_c (hf : FitF f) {t : Tr} (ht : treeS f = some t) (m : RM f o h) {kid : Int} {l binds : List Int} (hl : (kid, l) ∈ atM f t) (hln : ∀ v ∈ l, 0 ≤ v ∧ v < (f.vars.length : Int)) (hbn : ∀ v ∈ binds, 0 ≤ v ∧ v < (f.vars.length : Int))
    (hll : l.length ≤ 1000) (hbl : binds.length ≤ 1000)
    (yes : ∀ o', putL (busyP o l) o binds = some o' → ∀ h', RM f o' h' → h.nx ≤ h'.nx → (∀ i, 4 ≤ i → i < h.nx → h'.row i = h.row i) → WR T r κ (Fr.put s d (.bool true)) h' Q)
    (no : putL (busyP o l) o binds = none → ∀ h', WR T r κ (Fr.put s d (.bool false)) h' Q) : callK T 45 [sl binds, .int .i64 kid, .pi (Enc.c f), .pt 1 0] h d r κ s Q := by
  refine callK_shared (c := c45) rfl rfl rfl ?_
  have hr := fun {h d r κ s Q} => pureK_eq (o := false) (h := h) (d := d) (r := r) (κ := κ) (s := s) (Q := Q) (at_yes f hf kid ht hl) (.inr rfl)
  simp only [c_LFun] at hr
  have lo := m.lo
  have hx := m.nx
  simp [c45, lo, hr]
  have e0 : h.push (.cells [.bool false, .bool false, .bool false, .bool false, .bool false, .bool false, .bool false, .bool false, .bool false, .bool false, .bool false, .bool false, .bool false, .bool false, .bool false, .bool false]) = h.push (.cells (bls 16 fun _ => false)) := rfl
  rw [e0]
  have m1 := m.push (bls 16 fun _ => false)
  have hrow : (h.push (.cells (bls 16 fun _ => false))).row h.nx = some (bls 16 fun _ => false) := by simp
  have hk1 : ∀ i, 4 ≤ i → i < h.nx → (h.push (.cells (bls 16 fun _ => false))).row i = h.row i := fun i _ hi => by rw [row_push, if_neg (by omega)]
  have hn1 : (h.push (.cells (bls 16 fun _ => false))).nx = h.nx + 1 := rfl
  generalize h.push (.cells (bls 16 fun _ => false)) = h1 at *
  obtain ⟨b, hb⟩ : ∃ b, b = h.nx := ⟨_, rfl⟩
  rw [← hb] at hrow hk1 hn1 hx yes
  rw [← hb]
  refine WK_range tgrow (fun k s' h' => RM f o h' ∧ h'.row b = some (bls 16 (busyP o (l.take k))) ∧ h'.nx = b + 1 ∧ ∀ i, 4 ≤ i → i < b → h'.row i = h.row i) l.length w45_0 rfl (by decide) (by simp) (by simp) (by omega) (by decide) (fun _ _ _ _ j _ => j) ⟨m1, by rw [hrow, List.take_zero, busyP_nil], hn1, hk1⟩ ?_ ?_
  · rintro k s' h' hk ⟨jm, jr, jn, jk⟩ hi hs hg
    have f21 : s' 21 = sl l := (hs 21 (by decide)).trans (by simp)
    have f3 : s' 3 = .pt 1 0 := (hs 3 (by decide)).trans (by simp)
    have f7 : s' 7 = .pt b 0 := (hs 7 (by decide)).trans (by simp)
    obtain ⟨v0, v1⟩ := hln _ (List.getElem_mem hk)
    have v2 : l[k].toNat < f.vars.length := by omega
    have o16 := jm.lt l[k]
    by_cases h0 : 0 ≤ o l[k]
    · have o1 : ¬ o l[k] < 0 := by omega
      have hix := evIxp_pt (l := 16) (z := 1) (i := b) (o := 0) (k := .i64) h0 (by omega)
      have hset := bls_setI (n := 16) (p := busyP o (l.take k)) (b := true) h0
      rw [busyP_yes h0, ← take_succ' hk] at hset
      have o3 : (o l[k]).toNat < 16 := by omega
      have hlo := jm.lo
      have hb0 : ¬ 0 = b := by omega
      have hb1 : ¬ 1 = b := by omega
      simp [hi, f21, f3, f7, evIdx_nat, rd1_ptr, hk, jm.r1, evIdx_rfi v0 v2, jm.r0, ils_getI v0 v2, h0, hix, jr, hlo, o3, hset, jn]
      have mm := jm.set (j := b) (by omega) (bls 16 (busyP o (l.take (k + 1))))
      refine ⟨mm, fun i hi1 hi2 => ?_⟩
      rw [if_neg (by omega)]
      exact jk i hi1 hi2
    · have o1 : o l[k] < 0 := by omega
      simp [hi, f21, f3, f7, evIdx_nat, rd1_ptr, hk, jm.r1, evIdx_rfi v0 v2, jm.r0, ils_getI v0 v2, h0]
      exact ⟨jm, by rw [jr, take_succ' hk, busyP_no o1], jn, jk⟩
  rintro s1 h1' ⟨jm, jr, jn, jk⟩ hs1 hg1
  rw [List.take_length] at jr
  have f0 : s1 0 = sl binds := (hs1 0 (by decide)).trans (by simp)
  have f3 : s1 3 = .pt 1 0 := (hs1 3 (by decide)).trans (by simp)
  have f7 : s1 7 = .pt b 0 := (hs1 7 (by decide)).trans (by simp)
  clear hs1 hg1 hrow hk1 hn1 m1
  simp [f0]
  refine WK_range tgrow (fun k s' h' => ∃ ok bk, RM f ok h' ∧ h'.row b = some (bls 16 bk) ∧ h'.nx = b + 1 ∧ (∀ i, 4 ≤ i → i < b → h'.row i = h.row i) ∧ putL (busyP o l) o binds = putL bk ok (binds.drop k)) binds.length w45_1 rfl (by decide) (by simp) (by simp) (by omega) (by decide) (fun _ _ _ _ j _ => j) ⟨o, _, jm, jr, jn, jk, by simp⟩ ?_ ?_
  · rintro k s' h' hk ⟨ok, bk, jm, jr, jn, jk, je⟩ hi hs hg
    have g38 : s' 38 = sl binds := (hs 38 (by decide)).trans (by simp)
    have g3 : s' 3 = .pt 1 0 := (hs 3 (by decide)).trans (by simp [f3])
    have g7 : s' 7 = .pt b 0 := (hs 7 (by decide)).trans (by simp [f7])
    obtain ⟨v0, v1⟩ := hbn _ (List.getElem_mem hk)
    have v2 : binds[k].toNat < f.vars.length := by omega
    rw [List.drop_eq_getElem_cons hk] at je
    simp only [putL] at je
    simp [hi, g38, evIdx_nat, rd1_ptr, hk]
    refine WK_loop tgrow (fun q s2 h2 => h2 = h' ∧ s2 14 = .int .i64 (q : Nat) ∧ q ≤ 16 ∧ ∀ j < q, bk (j : Nat) = true) 16 w45_2 (by decide) ⟨rfl, by simp, by omega, fun j hj => absurd hj (by omega)⟩ ?_
    rintro q s2 h2 hq ⟨rfl, e14, hq16, hj⟩ hs2 hg2
    have p7 : s2 7 = .pt b 0 := (hs2 7 (by decide)).trans (by simp [g7])
    have p3 : s2 3 = .pt 1 0 := (hs2 3 (by decide)).trans (by simp [g3])
    have p13 : s2 13 = .int .i64 binds[k] := (hs2 13 (by decide)).trans (by simp)
    have p40 : s2 40 = .int .i64 (k : Nat) := (hs2 40 (by decide)).trans (by simp [hi])
    have hlo := jm.lo
    have hb0 : ¬ 0 = b := by omega
    have hb1 : ¬ 1 = b := by omega
    have fin : (q < 16 → bk (q : Nat) = false) → freeR bk = q := fun z => freeR_eq hq16 hj z
    simp [c45_2, e14]
    by_cases hql : q < 16
    case neg =>
      have hq' : q = 16 := by omega
      have hfr := fin fun z => absurd z hql
      rw [if_pos (by omega)] at je
      subst hq'
      simp [e14]
      exact no je _
    have hqI : (q : Int) < 16 := by omega
    have hqn : ¬ (q : Int) = 16 := by omega
    have hix := evIxp_pt (l := 16) (z := 1) (i := b) (o := 0) (k := .i64) (x := (q : Int)) (by omega) (by omega)
    have hg := bls_get (n := 16) (p := bk) hql
    simp [hqI, e14, p7, hix, jr, hg]
    cases hbq : bk (q : Nat)
    case true =>
      have hq2 : q < 9223372036854775807 := by omega
      simp [e14, hq2, hql]
      refine ⟨by omega, fun j hj' => ?_⟩
      rcases Nat.lt_succ_iff_lt_or_eq.1 hj' with z | z
      · exact hj j z
      · rw [z]; exact hbq
    case false =>
      have hfr := fin fun _ => hbq
      rw [if_neg (by omega), hfr] at je
      have mm := jm.out (v := binds[k]) v0 (q := (q : Nat)) (by omega)
      have hset := bls_set (n := 16) (k := q) (p := bk) (b := true)
      generalize (fun i : Int => if i = (q : Nat) then true else bk i) = bk2 at hset je
      have mm2 := mm.set (j := b) (by omega) (bls 16 bk2)
      have hb00 : ¬ b = 0 := by omega
      simp [e14, hqn, p3, p7, p13, p40, jm.r1, evIdx_rfi v0 v2, jm.r0, hlo, v2, hix, hb00, jr, hql, hset]
      refine ⟨_, mm2, bk2, rfl, jn, ?_, ?_⟩
      · intro i hi1 hi2
        rw [if_neg (by omega), if_neg (by omega)]
        exact jk i hi1 hi2
      · exact je
  · rintro s2 h2 ⟨ok, bk, jm, jr, jn, jk, je⟩ hs hg
    rw [List.drop_length] at je
    simp only [putL] at je
    simp
    exact yes _ je _ jm (by omega) jk

theorem atM_sub {a : Int} {ts : List Tr} {k : Nat} (hk : k < ts.length) : ∀ p ∈ atM f ts[k], p ∈ atM f (.node a ts) := fun p hp => by
  rw [atM, atMs_eq]
  exact List.mem_append_left _ (List.mem_flatMap.2 ⟨_, List.getElem_mem hk, hp⟩)

theorem visit46_c (hf : FitF f) {t0 : Tr} (ht : treeS f = some t0) {sc : List Int} {t : Tr} (hok : Ok f sc t) : ∀ {o : Int → Int} {h : AH} {d : Option Nat} {r : List COper} {κ : List KF} {s : Fr} {Q : Fr → AH → Prop}, (∀ p ∈ atM f t, p ∈ atM f t0) → RM f o h →
    (∀ o', vis f t o = some o' → ∀ h', RM f o' h' → h.nx ≤ h'.nx → (∀ i, 4 ≤ i → i < h.nx → h'.row i = h.row i) → WR T r κ (Fr.put s d (.bool true)) h' Q) →
    (vis f t o = none → ∀ h', WR T r κ (Fr.put s d (.bool false)) h' Q) → callK T 46 [.int .i64 t.root, .pi (Enc.c f), .pt 2 0, .pt 3 0] h d r κ s Q := by
  induction hok with
  | @node sc a ts ha hu hl hr hs hb ih =>
    intro o h d r κ s Q hat m yes no
    refine callK_shared (c := c46) rfl rfl rfl ?_
    have c80 := hf.code
    have v120 := hf.vars
    have hal : a.toNat < f.code.length := by omega
    have hfn := hf.node _ (nodeAt_mem hal)
    have lo := m.lo
    have hx := m.nx
    obtain ⟨x, hxe⟩ : ∃ x, x = nodeAt f a := ⟨_, rfl⟩
    have hcx : f.code[a.toNat] = x := by rw [hxe, nodeAt_eq hal]
    have ev : vis f (.node a ts) o = viss f ts (edg (nodeAt f a)) o := rfl
    rw [ev] at yes no
    rw [← hxe] at hfn hl hr hs hb ih yes no
    clear ev
    have hlw : h.lo ≤ h.nx := by omega
    simp [c46, Tr.root, evIdx_sl, ha.1, rds_ptr, hal, hlw, hcx]
    have m1 := m.push (Enc.c x)
    have hrow : (h.push (.cells (Enc.c x))).row h.nx = some (Enc.c x) := by simp
    have hk1 : ∀ i, 4 ≤ i → i < h.nx → (h.push (.cells (Enc.c x))).row i = h.row i := fun i _ hi => by rw [row_push, if_neg (by omega)]
    have hn1 : (h.push (.cells (Enc.c x))).nx = h.nx + 1 := rfl
    rw [show h.push (.cells [PV.int .i64 x.op, PV.int .i64 x.var, sl x.args, PV.int .i64 x.con, PV.int .i64 x.num, PV.int .i64 x.fn, sl x.more, PV.bool x.take, sl x.branches, PV.int .i64 x.next]) = h.push (.cells (Enc.c x)) from rfl]
    generalize h.push (.cells (Enc.c x)) = h1 at *
    obtain ⟨b, hbe⟩ : ∃ b, b = h.nx := ⟨_, rfl⟩
    rw [← hbe] at hrow hk1 hn1 hx yes
    rw [← hbe]
    simp [hrow, kids_r x hfn]
    have hkl := kids_fit hfn
    have hel := edg_len x
    refine WK_range tgrow (fun k s' h' => ∃ ok, RM f ok h' ∧ h'.row b = some (Enc.c x) ∧ b + 1 ≤ h'.nx ∧ (∀ i, 4 ≤ i → i < b → h'.row i = h.row i) ∧ viss f ts (edg x) o = viss f (ts.drop k) ((edg x).drop k) ok) (kids x).length w46_0 rfl (by decide) (by simp) (by simp) (by omega) (by decide) (fun _ _ _ _ j _ => j)
      ⟨o, m1, hrow, by omega, hk1, by simp⟩ ?_ ?_
    · rintro k s1 h2 hk ⟨ok, jm, jr, jn, jk, je⟩ hi hs1 hg1
      have f16 : s1 16 = sl (kids x) := (hs1 16 (by decide)).trans (by simp)
      have f6 : s1 6 = .pt b 0 := (hs1 6 (by decide)).trans (by simp)
      have f2 : s1 2 = .pt 2 0 := (hs1 2 (by decide)).trans (by simp)
      have f3 : s1 3 = .pt 3 0 := (hs1 3 (by decide)).trans (by simp)
      have hke : k < (edg x).length := by omega
      have hkt : k < ts.length := by omega
      obtain ⟨ek1, ek2⟩ := edg_get hke
      have hl4 := edg_fit hfn _ (List.getElem_mem hke)
      have hrt := hr k hkt hke
      have hok' := hs k hkt hke
      have hbk := hb _ (List.getElem_mem hke)
      have ih' := fun {o h d r κ s Q} => ih k hkt hke (o := o) (h := h) (d := d) (r := r) (κ := κ) (s := s) (Q := Q)
      rw [List.drop_eq_getElem_cons hke, List.drop_eq_getElem_cons hkt] at je
      simp only [viss] at je
      simp [hi, f16, evIdx_nat, rd1_ptr, hk, f6, jr, binds_r x hfn]
      generalize hkk : (edg x)[k] = e at *
      obtain ⟨kk, l⟩ := e
      simp only at ek1 ek2 hl4 hrt hbk hok' je
      rw [← ek1]
      have jrow := jr
      simp only [c_LNode] at jrow
      have g15 : ∀ (hop : x.op = 9), ∃ hb : k < x.branches.length, x.branches[k].binds = l := fun hop => by
        have hb : k < x.branches.length := by
          unfold edg at hke; rw [if_pos hop] at hke; simpa using hke
        rw [dif_pos hop] at ek2
        exact ⟨hb, ek2.symm⟩
      have g15' : ¬ x.op = 9 → binds x = l := fun hop => by rw [dif_neg hop] at ek2; exact ek2.symm
      refine condS_cut tgrow (fun s3 h3 => h3 = h2 ∧ s3 9 = sl l) [9, 28, 29, 30, 31, 32, 33] (by decide) (by decide) (by simp) (fun hc => ?_) (fun hc => ?_) (fun s3 h3 hP hs3 hg3 => ?_)
      · simp at hc
        obtain ⟨hb, e3⟩ := g15 hc
        simp [f6, jrow, evIdx_nat, rd1_ptr, hb, e3]
      · simp at hc
        simp [g15' hc]
      · obtain ⟨rfl, p9⟩ := hP
        have p2 : s3 2 = .pt 2 0 := (hs3 2 (by decide)).trans (by simp [f2])
        have p3 : s3 3 = .pt 3 0 := (hs3 3 (by decide)).trans (by simp [f3])
        have p8 : s3 8 = .int .i64 kk := (hs3 8 (by decide)).trans (by simp)
        have p18 : s3 18 = .int .i64 (k : Nat) := (hs3 18 (by decide)).trans (by simp [hi])
        clear hs3 hs1 hg1 hg3
        have hvb1 : 45 < vb := by decide
        have hvb2 : 46 < vb := by decide
        have hsub : ∀ p ∈ atM f ts[k], p ∈ atM f t0 := fun p hp => hat p (atM_sub hkt p hp)
        have hmem : (kk, atL f ts[k]) ∈ atM f t0 := hsub _ (by rw [← hrt]; exact atM_root _)
        have hnum := atL_nums hok'
        have hnl := hnum.length
        simp [p2, p8, p9, jm.r2, hvb1]
        refine put46_c hf ht jm hmem hnum.2 (fun v hv => ⟨(hbk v hv).1, (hbk v hv).2.2⟩) (by omega) (by omega) (fun o' hp h4 m4 g4 k4 => ?_) (fun hp h4 => ?_)
        · rw [hp] at je
          simp only at je
          simp [p3, p8, m4.r3, hvb2]
          rw [← hrt]
          refine ih' hsub m4 (fun o2 hv h5 m5 g5 k5 => ?_) (fun hv h5 => ?_)
          · rw [hv] at je
            simp only at je
            simp [p18]
            refine ⟨o2, m5, ?_, by omega, fun i hi1 hi2 => ?_, je⟩
            · rw [k5 b hx (by omega), k4 b hx (by omega)]; exact jr
            · rw [k5 i hi1 (by omega), k4 i hi1 (by omega)]; exact jk i hi1 hi2
          · rw [hv] at je
            simp
            exact no je _
        · rw [hp] at je
          simp
          exact no je _
    · rintro s1 h2 ⟨ok, jm, jr, jn, jk, je⟩ hs1 hg1
      rw [List.drop_of_length_le (l := ts) (by omega)] at je
      simp only [viss] at je
      simp
      exact yes _ je _ jm (by omega) jk
end
end Go.Proofs.Ytbnfcdjlbabddaa

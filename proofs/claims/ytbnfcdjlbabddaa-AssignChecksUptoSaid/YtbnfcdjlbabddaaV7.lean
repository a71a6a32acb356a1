/- The reference: registers are given out. The law AssignRegisters, evaluated. -/
import Derived.Test.YtbnfcdjlbabddaaV6
set_option linter.unusedVariables false
set_option linter.unusedSimpArgs false
namespace Go.Proofs.Ytbnfcdjlbabddaa
open Go.Ev

theorem freeR_congr {b b' : Int → Bool} (h : ∀ r, 0 ≤ r → b r = b' r) : freeR b = freeR b' := by
  unfold freeR
  congr 1
  funext k
  rw [h _ (by omega)]
theorem putL_congr : ∀ (e : List Int) {b b' : Int → Bool} {o : Int → Int}, (∀ r, 0 ≤ r → b r = b' r) → putL b o e = putL b' o e
  | [], _, _, _, _ => rfl
  | v :: e, b, b', o, h => by
    simp only [putL, freeR_congr h]
    split
    · rfl
    · refine putL_congr e fun r hr => ?_
      by_cases q : r = (freeR b' : Nat)
      · simp [q]
      · simp [q, h r hr]
def inL (l : List Int) : Int → Bool := fun r => decide (r ∈ l)
theorem inL_snoc (l : List Int) (q : Int) : (fun i => if i = q then true else inL l i) = inL (l ++ [q]) := by
  funext i
  simp only [inL, List.mem_append, List.mem_singleton]
  by_cases h : i = q <;> simp [h]
/-- What is taken: as the reference lists it. -/
theorem busy_taken {o : Int → Int} {l e : List Int} (h : ∀ v ∈ e, o v < 0) {r : Int} (hr : 0 ≤ r) : busyP o l r = inL ((l.filter fun v => !decide (v ∈ e)).map o) r := by
  rw [Bool.eq_iff_iff]
  simp only [busyP, inL, List.any_eq_true, Bool.and_eq_true, decide_eq_true_eq, List.mem_map, List.mem_filter, Bool.not_eq_true', decide_eq_false_iff_not]
  constructor
  · rintro ⟨v, hv, h0, h1⟩
    exact ⟨v, ⟨hv, fun q => by have := h v q; omega⟩, h1⟩
  · rintro ⟨v, ⟨hv, _⟩, h1⟩
    exact ⟨v, hv, by omega, h1⟩
theorem putL_keep : ∀ (e : List Int) {b : Int → Bool} {o o' : Int → Int}, putL b o e = some o' → ∀ v, v ∉ e → o' v = o v
  | [], _, _, _, h, _, _ => by simp only [putL, Option.some.injEq] at h; rw [h]
  | x :: e, b, o, o', h, v, hv => by
    simp only [putL] at h
    split at h
    · cases h
    · rw [List.mem_cons, not_or] at hv
      rw [putL_keep e h v hv.2, if_neg hv.1]
mutual
theorem vis_keep (f : LFun) : ∀ (t : Tr) {o o' : Int → Int}, vis f t o = some o' → ∀ v, v ∉ bnd f t → o' v = o v
  | .node a ts, o, o', h, v, hv => viss_keep f ts (edg (nodeAt f a)) h v hv
theorem viss_keep (f : LFun) : ∀ (ts : List Tr) (es : List (Int × List Int)) {o o' : Int → Int}, viss f ts es o = some o' → ∀ v, v ∉ bnds f ts es → o' v = o v
  | [], _, o, o', h, v, _ => by simp only [viss, Option.some.injEq] at h; rw [h]
  | _ :: _, [], o, o', h, v, _ => by simp only [viss, Option.some.injEq] at h; rw [h]
  | t :: ts, e :: es, o, o', h, v, hv => by
    rw [bnds, List.mem_append, List.mem_append, not_or, not_or] at hv
    simp only [viss] at h
    split at h
    · cases h
    · rename_i o1 h1
      split at h
      · cases h
      · rename_i o2 h2
        rw [viss_keep f ts es h v hv.2, vis_keep f t h2 v hv.1.2, putL_keep _ h1 v hv.1.1]
end

section
variable {f : LFun} {h : AH} {d : Option Nat} {r : List COper} {κ : List KF} {s : Fr} {Q : Fr → AH → Prop}

theorem refAt_c (hf : FitF f) {t0 t : Tr} (ht : treeS f = some t0) {sc : List Int} (hok : Ok f sc t) (hin : t.root ∈ t0.pre) : Pure T 63 [.agg (Enc.c f), .int .i64 t.root] (.tup [sl (atL f t), .int .i64 0]) false := by
  have hb : 0 ≤ t.root ∧ t.root < (f.code.length : Int) := by
    cases hok with
    | node ha => exact ha
  have hP := refBad_ok f hf ht hin hb.1 hb.2
  have hA := refAt_p hf hok
  have hr := fun {h d r κ s Q} => pureK_eq (o := false) (h := h) (d := d) (r := r) (κ := κ) (s := s) (Q := Q) hP (.inr rfl)
  have hr2 := fun {h d r κ s Q} => pureK_eq (o := false) (h := h) (d := d) (r := r) (κ := κ) (s := s) (Q := Q) hA (.inr rfl)
  simp only [c_LFun] at hr hr2
  refine ⟨c63, rfl, rfl, ?_⟩
  simp [c63, hr, hr2]

/-- Registers that are being given out. -/
structure RG (f : LFun) (o : Int → Int) (rv : PV) (h : AH) : Prop where
  lo : h.lo = 0
  acc : Acc h rv 1 (ils f.vars.length o) f.vars.length
def RK (h : AH) (rv : PV) (h' : AH) : Prop := h.nx ≤ h'.nx ∧ ∀ i, i < h.nx → ¬ nm rv i → h'.blk i = h.blk i
theorem RK.refl (h : AH) (rv : PV) : RK h rv h := ⟨Nat.le_refl _, fun _ _ _ => rfl⟩
theorem RK.trans {h h1 h2 : AH} {rv : PV} (a : RK h rv h1) (b : RK h1 rv h2) : RK h rv h2 := ⟨Nat.le_trans a.1 b.1, fun i hi hn => (b.2 i (by have := a.1; omega) hn).trans (a.2 i hi hn)⟩
theorem RK.row {h h1 : AH} {rv : PV} (a : RK h rv h1) {i : Nat} (hi : i < h.nx) (hn : ¬ nm rv i) : h1.row i = h.row i := by simp only [AH.row, a.2 i hi hn]
theorem RG.push {o : Int → Int} {rv : PV} (m : RG f o rv h) (B : Blk) : RG f o rv (h.push B) := ⟨m.lo, m.acc.push _⟩
theorem RK.push (h : AH) (rv : PV) (B : Blk) : RK h rv (h.push B) := ⟨Nat.le_succ _, fun i hi _ => by rw [blk_push, if_neg (by omega)]⟩
theorem RG.out {o : Int → Int} {rv : PV} (m : RG f o rv h) {j : Nat} (e : rv = .rf 1 j 0 f.vars.length) {v q : Int} (h0 : 0 ≤ v) :
    RG f (fun i => if i = v then q else o i) rv (h.set j (.cells ((ils f.vars.length o).set v.toNat (.int .i64 q)))) ∧ RK h rv (h.set j (.cells ((ils f.vars.length o).set v.toNat (.int .i64 q)))) := by
  have hj : nm rv j := ⟨_, _, _, e⟩
  obtain ⟨jl, jo⟩ := acc_nm m.acc hj
  refine ⟨⟨m.lo, by simp, .inr ⟨j, e, by rw [row_set, if_pos rfl, ils_setI h0], jl, jo⟩⟩, Nat.le_refl _, fun i hi hn => ?_⟩
  rw [blk_set, if_neg fun z : i = j => hn (by rw [z]; exact hj)]
theorem RG.mv {o : Int → Int} {rv : PV} (m : RG f o rv h) {h1 : AH} {u w : PV} (ap : Apart rv u) (mv : Mv h u h1 w) : RG f o rv h1 ∧ Apart rv w := ⟨⟨by rw [mv.grow.1]; exact m.lo, m.acc.mv mv ap⟩, ap.mv mv m.acc⟩
theorem RK.mv {h0 h1 : AH} {rv u w : PV} (g : RK h0 rv h) (hu : ∀ i, nm u i → h0.nx ≤ i) (mv : Mv h u h1 w) : RK h0 rv h1 ∧ ∀ i, nm w i → h0.nx ≤ i := by
  have hx := mv.grow.2
  refine ⟨⟨by have := g.1; omega, fun i hi hn => ?_⟩, ?_⟩
  · rw [← g.2 i hi hn]
    exact mv.blk (by have := g.1; omega) fun z o n e => by have := hu i ⟨z, o, n, e⟩; omega
  · rintro i ⟨z, o, n, rfl⟩
    rcases mv.2 with q | q | ⟨z', i', o', n', q, hi'⟩
    · exact hu i ⟨z, o, n, q.symm⟩
    · cases q
    · cases q; have := g.1; omega
theorem pres_mem {ts : List Tr} {k : Nat} (hk : k < ts.length) {a : Int} (h : a ∈ ts[k].pre) : a ∈ pres ts := by
  rw [pres_eq]
  exact List.mem_flatMap.2 ⟨_, List.getElem_mem hk, h⟩
theorem pre_root (t : Tr) : t.root ∈ t.pre := by cases t; simp [Tr.pre, Tr.root]

theorem visit48_c (hf : FitF f) {t0 : Tr} (ht : treeS f = some t0) {sc : List Int} {t : Tr} (hok : Ok f sc t) : (bnd f t).Nodup → (∀ a ∈ t.pre, a ∈ t0.pre) →
    ∀ {o : Int → Int} {rv : PV} {h : AH} {d : Option Nat} {r : List COper} {κ : List KF} {s : Fr} {Q : Fr → AH → Prop}, (∀ v, o v < 16) → (∀ v ∈ bnd f t, o v = -1) → RG f o rv h → h.lo ≤ h.nx →
    (∀ o', vis f t o = some o' → (∀ v, o' v < 16) → ∀ h', RG f o' rv h' → RK h rv h' → WR T r κ (Fr.put s d (.bool true)) h' Q) →
    (vis f t o = none → ∀ h', WR T r κ (Fr.put s d (.bool false)) h' Q) →
    callK T 48 [.agg (Enc.c f), .int .i64 t.root, rv] h d r κ s Q := by
  induction hok with
  | @node sc a ts ha hu hl hr hs hb ih =>
  intro hvn hsub o rv h d r κ s Q ho hneg m hlw yes no
  refine callK_shared (c := c48) rfl rfl rfl ?_
  have c80 := hf.code
  have v120 := hf.vars
  have hal : a.toNat < f.code.length := by omega
  have hfn := hf.node _ (nodeAt_mem hal)
  obtain ⟨x, hxe⟩ : ∃ x, x = nodeAt f a := ⟨_, rfl⟩
  have hcx : f.code[a.toNat] = x := by rw [hxe, nodeAt_eq hal]
  rw [← hxe] at hfn hl hr hb
  have hkl := kids_fit hfn
  have hkl2 : (kids x).length = ts.length := by rw [kids_edg, List.length_map, hl]
  have lo := m.lo
  simp [c48, Tr.root, evIdx_sl, ha.1, rds_ptr, hal, hcx, lo, kidsR_r x hfn]
  obtain ⟨h1, e1⟩ : ∃ h1, h1 = h.push (.cells (Enc.c x)) := ⟨_, rfl⟩
  have m1 := m.push (.cells (Enc.c x))
  have g1 := RK.push h rv (.cells (Enc.c x))
  have r1 : h1.row h.nx = some (Enc.c x) := by rw [e1]; simp
  have it1 : ¬ nm rv h.nx := fun q => by have := (acc_nm m.acc q).1; omega
  have it2 : h.nx < h1.nx := by rw [e1]; simp
  rw [← e1] at m1 g1
  simp at e1
  rw [← e1]
  obtain ⟨it, hit⟩ : ∃ it, it = h.nx := ⟨_, rfl⟩
  rw [← hit] at r1 it1 it2 ⊢
  clear e1
  have hbl : ∀ k (hk : k < ts.length), (edg x)[k]'(by omega) ∈ edg x := fun k hk => List.getElem_mem _
  have hvis : vis f (.node a ts) o = viss f ts (edg x) o := by rw [vis, ← hxe]
  have hbd : bnd f (.node a ts) = bnds f ts (edg x) := by rw [bnd, ← hxe]
  rw [hvis] at yes no
  rw [hbd] at hneg hvn
  refine WK_loop tgrow (fun k s' h' => s' 9 = .int .i64 (k : Nat) ∧ ∃ ok, RG f ok rv h' ∧ RK h1 rv h' ∧ (∀ v, ok v < 16) ∧ (∀ v ∈ bnds f (ts.drop k) ((edg x).drop k), ok v = -1) ∧ (bnds f (ts.drop k) ((edg x).drop k)).Nodup ∧ viss f ts (edg x) o = viss f (ts.drop k) ((edg x).drop k) ok) ts.length w48_0 (by decide) ⟨by simp, o, m1, RK.refl _ _, ho, by simpa using hneg, by simpa using hvn, by simp⟩ ?_
  rintro k s2 h2 hk ⟨e9, ok, m2, g2, hok16, hneg2, hnd2, heq⟩ hs2 hg2
  have f2 : s2 2 = rv := (hs2 2 (by decide)).trans (by simp)
  have f3 : s2 3 = .pi (Enc.c f) := (hs2 3 (by decide)).trans (by simp)
  have f7 : s2 7 = .pt it 0 := (hs2 7 (by decide)).trans (by simp)
  have f8 : s2 8 = sl (kids x) := (hs2 8 (by decide)).trans (by simp)
  clear hs2 hg2
  have hk2 : k < 9223372036854775807 := by omega
  by_cases hkt : k < ts.length
  case neg =>
    have hkk : ¬ k < (kids x).length := by omega
    rw [List.drop_of_length_le (l := ts) (by omega)] at heq
    simp only [viss] at heq
    simp [c48_0, e9, f8, hkk]
    exact yes _ heq hok16 _ m2 (g1.trans g2)
  have hkk : k < (kids x).length := by omega
  have hke : k < (edg x).length := by omega
  have er : (kids x)[k] = ts[k].root := by
    rw [hr k hkt hke]
    simp only [kids_edg, List.getElem_map]
  have r2 : h2.row it = some (Enc.c x) := by rw [g2.row it2 it1]; exact r1
  have jrow := r2
  simp only [c_LNode] at jrow
  have hsk := hs k hkt (by rw [← hxe]; exact hke)
  have hpk : ∀ a ∈ ts[k].pre, a ∈ t0.pre := fun b hb => hsub b (by rw [Tr.pre]; exact List.mem_cons_of_mem _ (pres_mem hkt hb))
  have hA := atL_nums hsk
  have hi := fun {h d r κ s Q} => pureK_eq (o := false) (h := h) (d := d) (r := r) (κ := κ) (s := s) (Q := Q) (refAt_c hf ht hsk (hpk _ (pre_root _))) (.inr rfl)
  simp only [c_LFun] at hi
  have lo2 := m2.lo
  simp [c48_0, e9, f3, f7, f8, hkk, evIdx_nat, rd1_ptr, er, hi, jrow, branch_r x hfn k hke]
  have hl4 := edg_fit hfn _ (List.getElem_mem hke)
  have hbk := hb _ (List.getElem_mem hke)
  rw [List.drop_eq_getElem_cons hkt, List.drop_eq_getElem_cons hke] at heq hneg2 hnd2
  have ihk := ih k hkt (by rw [← hxe]; exact hke)
  simp only [viss] at heq
  rw [bnds] at hneg2 hnd2
  generalize hE : (edg x)[k] = E at *
  obtain ⟨kk, l⟩ := E
  simp only at heq hneg2 hnd2 hl4 hbk
  clear hE
  generalize hTk : ts[k] = tk at *
  have hAr : ∀ v ∈ atL f tk, 0 ≤ v ∧ v < (f.vars.length : Int) := hA.2
  have hAl := hA.length
  obtain ⟨nd12, nd3, nd4⟩ := List.nodup_append.1 hnd2
  obtain ⟨nd1, nd2, nd5⟩ := List.nodup_append.1 nd12
  have hln : ∀ v ∈ l, ok v < 0 := fun v hv => by
    rw [hneg2 v (List.mem_append_left _ (List.mem_append_left _ hv))]; decide
  obtain ⟨A, hAe⟩ : ∃ A, A = atL f tk := ⟨_, rfl⟩
  rw [← hAe] at hAr hAl heq ⊢
  obtain ⟨K, hK⟩ := stages (fun z => (z.filter fun v => !decide (v ∈ l)).map ok) A
  have K0 : K 0 = [] := by rw [hK]; rfl
  have Ks : ∀ q (hq : q < A.length), K (q + 1) = if A[q] ∈ l then K q else K q ++ [ok A[q]] := fun q hq => by
    rw [hK]; simp only; rw [take_succ' hq, List.filter_append]
    split
    · rename_i z; simp [z]
    · rename_i z; simp [z]
  have Kn : K A.length = (A.filter fun v => !decide (v ∈ l)).map ok := by rw [hK]; simp
  have Kl : ∀ q, (K q).length ≤ 120 := fun q => by
    rw [hK]
    simp only
    rw [List.length_map]
    refine Nat.le_trans (List.length_filter_le _ _) ?_
    rw [List.length_take]; omega
  refine WK_loop tgrow (fun q s' h' => s' 14 = .int .i64 (q : Nat) ∧ RG f ok rv h' ∧ RK h2 rv h' ∧ Acc h' (s' 13) 1 ((K q).map Enc.c).flatten (K q).length ∧ Apart rv (s' 13) ∧ ∀ i, nm (s' 13) i → h2.nx ≤ i) A.length w48_1 (by decide) ⟨by simp, m2, RK.refl _ _, by simp [K0]; exact Acc.emp, by simp; exact Apart.emp' _, ?_⟩ ?_
  · simp; rintro i ⟨_, _, _, q⟩; cases q
  rintro q s3 h3 hq ⟨e14, m3, g3, ja, jap, jn⟩ hs3 hg3
  have p2 : s3 2 = rv := (hs3 2 (by decide)).trans (by simp [f2])
  have p3 : s3 3 = .pi (Enc.c f) := (hs3 3 (by decide)).trans (by simp [f3])
  have p8 : s3 8 = sl (kids x) := (hs3 8 (by decide)).trans (by simp [f8])
  have p9 : s3 9 = .int .i64 (k : Nat) := (hs3 9 (by decide)).trans (by simp [e9])
  have p10 : s3 10 = sl A := (hs3 10 (by decide)).trans (by simp)
  have p12 : s3 12 = sl l := (hs3 12 (by decide)).trans (by simp)
  clear hs3 hg3
  have hq2 : q < 9223372036854775807 := by omega
  have lo3 := m3.lo
  have l3 := Kl q
  by_cases hql : q < A.length
  · have hks := Ks q hql
    by_cases hin : A[q] ∈ l
    · rw [if_pos hin] at hks
      simp [c48_1, e14, p10, p12, hql, evIdx_nat, rd1_ptr, inR46_r l A[q] (by omega), hin, hq2, hks]
      exact ⟨m3, g3, ja, jap, jn⟩
    · rw [if_neg hin] at hks
      obtain ⟨v0, v1⟩ := hAr _ (List.getElem_mem hql)
      have v2 : A[q].toNat < f.vars.length := by omega
      obtain ⟨j, ej, rj⟩ := acc_rf m3.acc v2
      simp [c48_1, e14, p2, p10, p12, hql, evIdx_nat, rd1_ptr, inR46_r l A[q] (by omega), hin, -WR_app]
      rw [ej]
      simp [evIdx_rfi v0 v2, rj, ils_getI v0 v2, ils_gt v0, v2, -WR_app]
      refine WR_app_acc (m := 1) (ys := [.int .i64 (ok A[q])]) (by simpa using ja) (by simp; exact src_psl rfl) (by rfl) (by omega) (room (by omega)) (fun w h4 ha4 mv4 => ?_)
      simp at mv4
      obtain ⟨m4, ap4⟩ := m3.mv jap mv4
      obtain ⟨g4, n4⟩ := g3.mv jn mv4
      rw [← ej]
      simp [e14, hq2, hks]
      exact ⟨m4, g4, by simpa using ha4, ap4, n4⟩
  have hqn : q = A.length := by omega
  rw [hqn, Kn] at ja
  simp [c48_1, e14, p10, hql]
  have hbt : putL (busyP ok A) ok l = putL (inL ((A.filter fun v => !decide (v ∈ l)).map ok)) ok l := putL_congr l fun r hr => busy_taken hln hr
  rw [hbt] at heq
  have hTl : ((A.filter fun v => !decide (v ∈ l)).map ok).length ≤ 120 := by rw [← Kn]; exact Kl _
  have hT16 : ∀ y ∈ (A.filter fun v => !decide (v ∈ l)).map ok, y < 16 := fun y hy => by
    obtain ⟨v, _, rfl⟩ := List.mem_map.1 hy
    exact hok16 v
  generalize (A.filter fun v => !decide (v ∈ l)).map ok = T0 at *
  clear K0 Ks Kn Kl hK hbt
  refine WK_loop tgrow (fun q s' h' => s' 15 = .int .i64 (q : Nat) ∧ ∃ oq Tq, RG f oq rv h' ∧ RK h2 rv h' ∧ Acc h' (s' 13) 1 (Tq.map Enc.c).flatten Tq.length ∧ Apart rv (s' 13) ∧ (∀ i, nm (s' 13) i → h2.nx ≤ i) ∧ (∀ v, oq v < 16) ∧ (∀ y ∈ Tq, y < 16) ∧ Tq.length ≤ 120 + q ∧ putL (inL T0) ok l = putL (inL Tq) oq (l.drop q)) l.length w48_2 (by decide) ⟨by simp, ok, T0, m3, g3, by simpa using ja, by simpa using jap, by simpa using jn, hok16, hT16, by omega, by simp⟩ ?_
  rintro q2 s4 h4 hq4 ⟨e15, oq, Tq, m4, g4, jb, jbp, jbn, oq16, Tq16, hTql, heq4⟩ hs4 hg4
  have t2 : s4 2 = rv := (hs4 2 (by decide)).trans (by simp [p2])
  have t3 : s4 3 = .pi (Enc.c f) := (hs4 3 (by decide)).trans (by simp [p3])
  have t8 : s4 8 = sl (kids x) := (hs4 8 (by decide)).trans (by simp [p8])
  have t9 : s4 9 = .int .i64 (k : Nat) := (hs4 9 (by decide)).trans (by simp [p9])
  have t12 : s4 12 = sl l := (hs4 12 (by decide)).trans (by simp [p12])
  clear hs4 hg4
  have lo4 := m4.lo
  have hq5 : q2 < 9223372036854775807 := by omega
  by_cases hql4 : q2 < l.length
  · rw [List.drop_eq_getElem_cons hql4] at heq4
    simp only [putL] at heq4
    obtain ⟨v0, _, v1⟩ := hbk _ (List.getElem_mem hql4)
    have v2 : l[q2].toNat < f.vars.length := by omega
    obtain ⟨j, ej, rj⟩ := acc_rf m4.acc v2
    have hsn := jb.snap (m := 11) rfl (by decide)
    simp [c48_2, e15, t12, hql4]
    refine WK_loop tgrow (fun z s' h' => h' = h4 ∧ s' 16 = .int .i64 (z : Nat) ∧ z ≤ 16 ∧ ∀ j < z, inL Tq (j : Nat) = true) 16 w48_3 (by decide) ⟨rfl, by simp, by omega, fun j hj => absurd hj (by omega)⟩ ?_
    rintro z s5 h5 hz ⟨rfl, e16, hz16, hzj⟩ hs5 hg5
    have u2 : s5 2 = rv := (hs5 2 (by decide)).trans (by simp [t2])
    have u12 : s5 12 = sl l := (hs5 12 (by decide)).trans (by simp [t12])
    have u13 : s5 13 = s4 13 := (hs5 13 (by decide)).trans (by simp)
    have u15 : s5 15 = .int .i64 (q2 : Nat) := (hs5 15 (by decide)).trans (by simp [e15])
    clear hs5 hg5
    have hzin := fun {d r κ s Q} => inR46_r (o := (true)) (h := h5) (d := d) (r := r) (κ := κ) (s := s) (Q := Q) Tq (z : Nat) (by omega)
    by_cases hin : ((z : Nat) : Int) ∈ Tq
    · have hz15 : z < 16 := by have := Tq16 _ hin; omega
      have hz2 : z < 9223372036854775807 := by omega
      simp [c48_3, e16, u13, hsn, inR46_r Tq (z : Nat) (by omega), hin, hz15, hz2]
      refine ⟨by omega, fun j hj => ?_⟩
      by_cases q : j = z
      · subst q; simp [inL, hin]
      · exact hzj j (by omega)
    · have hfr : freeR (inL Tq) = z := freeR_eq hz16 hzj fun _ => by simp [inL, hin]
      rw [hfr] at heq4
      simp [c48_3, e16, u13, hsn, inR46_r Tq (z : Nat) (by omega), hin]
      by_cases hz6 : z = 16
      · have h15 : (15 : Int) < (z : Int) := by omega
        rw [if_pos hz6] at heq4
        rw [heq4] at heq
        simp only at heq
        simp [h15]
        exact no heq _
      have h15 : ¬ (15 : Int) < (z : Int) := by omega
      rw [if_neg hz6, inL_snoc] at heq4
      obtain ⟨m6, g6⟩ := m4.out (q := (z : Nat)) ej v0
      have hax : Acc (h5.set j (.cells ((ils f.vars.length oq).set l[q2].toNat (.int .i64 (z : Nat))))) (s4 13) 1 (Tq.map Enc.c).flatten Tq.length := jb.set _ fun z o n e => jbp.clash ⟨_, _, _, ej⟩ ⟨_, _, _, e⟩
      simp [h15, u2, u12, u15, e16, evIdx_nat, rd1_ptr, hql4, -WR_app]
      rw [ej]
      simp [evIdx_rfi v0 v2, rj, v2, lo4, u13, e16, -WR_app]
      generalize h5.set j (.cells ((ils f.vars.length oq).set l[q2].toNat (.int .i64 (z : Nat)))) = h6 at *
      have lo6 := m6.lo
      refine WR_app_acc (m := 1) (ys := [.int .i64 (z : Nat)]) (by simpa using hax) (by simp; exact src_psl rfl) (by rfl) (by omega) (room (by omega)) (fun w h7 ha7 mv7 => ?_)
      simp at mv7
      obtain ⟨m7, ap7⟩ := m6.mv jbp mv7
      obtain ⟨g7, n7⟩ := (g4.trans g6).mv jbn mv7
      rw [← ej]
      simp [u15, hq5]
      refine ⟨_, m7, g7, Tq ++ [(z : Int)], by simpa using ha7, ap7, n7, fun v => ?_, fun y hy => ?_, by simp; omega, heq4⟩
      · by_cases e : v = l[q2]
        · simp [e]; omega
        · simp [e]; exact oq16 v
      · rcases List.mem_append.1 hy with e | e
        · exact Tq16 y e
        · rw [List.mem_singleton.1 e]; omega
  have hqn4 : q2 = l.length := by omega
  rw [List.drop_of_length_le (by omega)] at heq4
  simp only [putL] at heq4
  rw [heq4] at heq
  simp only at heq
  have hkeep := putL_keep l heq4
  have k3 : ∀ v ∈ bnd f tk, oq v = -1 := fun v hv => by
    rw [hkeep v fun q => nd5 v q v hv rfl]
    exact hneg2 v (List.mem_append_left _ (List.mem_append_right _ hv))
  simp [c48_2, e15, t2, t3, t8, t9, t12, hql4, evIdx_nat, rd1_ptr, hkk, er]
  refine ihk nd2 hpk oq16 k3 m4 (by have := g4.1; have := g2.1; have := g1.1; omega) (fun o' hv hv16 h5 m5 g5 => ?_) (fun hv h5 => ?_)
  · rw [hv] at heq
    simp only at heq
    simp [t9, hk2, hkt]
    refine ⟨o', m5, g2.trans (g4.trans g5), hv16, fun v hv' => ?_, nd3, heq⟩
    rw [vis_keep f tk hv v fun q => nd4 v (List.mem_append_right _ q) v hv' rfl, hkeep v fun q => nd4 v (List.mem_append_left _ q) v hv' rfl]
    exact hneg2 v (List.mem_append_right _ hv')
  · rw [hv] at heq
    simp only at heq
    simp
    exact no heq _
end
end Go.Proofs.Ytbnfcdjlbabddaa

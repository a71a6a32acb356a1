/- The reference: a function's visit, whole. -/
import Derived.Test.YtbnfcdjlbabddaaV4
set_option linter.unusedVariables false
set_option linter.unusedSimpArgs false
namespace Go.Proofs.Ytbnfcdjlbabddaa
open Go.Ev

/-- A visit, done. -/
def wR (f : LFun) (NL VL OL : List Int) (c : Int) (bad : Bool) : List PV := [PV.str f.name, PV.int .i64 f.params, PV.int .i64 f.result, sl f.vars, sl f.code, PV.int .i64 f.body, PV.bool f.extern] ++ [sl NL, sl VL, sl OL, .int .i64 c, .bool bad]
def wRes (f : LFun) (v : PV) : Prop := ∃ NL VL OL c bad, v = .pi (wR f NL VL OL c bad) ∧
  ((∃ t nd vs, okP f ∧ f.extern = false ∧ shapeS f = some (t, nd, vs) ∧ bad = false ∧ OL = nd ∧ ∃ ndf, corrN f ndf nd ∧ NL = (nums f.code.length).map ndf) ∨
   (okP f ∧ f.extern = true ∧ bad = false) ∨ ((¬ okP f ∨ (f.extern = false ∧ shapeS f = none)) ∧ bad = true))

theorem ils_snoc (k : Nat) (p : Int → Int) : ils k p ++ [.int .i64 (p (k : Nat))] = ils (k + 1) p := by
  unfold ils
  rw [List.range_succ, List.map_append]; rfl
theorem ils_zero (p : Int → Int) : ils 0 p = [] := rfl
theorem ils_at (k : Nat) (p : Int → Int) (x y : PV) : (ils k p ++ [x]).set k y = ils k p ++ [y] := by
  rw [List.set_append, if_neg (by simp)]
  simp
theorem snap_pt0 {h : AH} {d i : Nat} {cs : List PV} (hr : h.row i = some cs) : snap h (d + 1) (.pt i 0) = (allO (snap h d) cs).map PV.pi := by
  show (match h.row i with | some cs => (allO (snap h d) (cs.drop 0)).map PV.pi | .none => .none) = _
  rw [hr]; rfl

theorem WM.end {f : LFun} {nd vr : Int → Int} {c : Int} {bad : Bool} {nodes : List Int} {nv vv ov : PV} {h : AH} (m : WM f nd vr c bad nodes nv vv ov h) :
    snap h (11 + 1) (.pt 0 0) = some (.pi (wR f ((nums f.code.length).map nd) ((nums f.vars.length).map vr) nodes c bad)) := by
  have an := m.an
  have av := m.av
  rw [ils_map] at an av
  have s1 := an.snap (m := 10) (by simp [nums_len]) (by decide)
  have s2 := av.snap (m := 10) (by simp [nums_len]) (by decide)
  have s3 := m.ao.snap (m := 10) rfl (by decide)
  have r0 := m.r0
  rw [snap_pt0 m.r0]
  simp [wC, wR, s1, s2, s3]

/-- The memory while a visit is prepared. -/
structure OM (f : LFun) (cn : List PV) (n : Nat) (cv : List PV) (k : Nat) (cs : List PV) (m : Nat) (nv vv sv : PV) (c : Int) (h : AH) : Prop where
  lo : h.lo = 0
  nx : 1 ≤ h.nx
  r0 : h.row 0 = some (wC f nv vv .emp c false)
  an : Acc h nv 1 cn n
  av : Acc h vv 1 cv k
  asv : Acc h sv 1 cs m
  n0 : ¬ nm nv 0
  v0 : ¬ nm vv 0
  s0 : ¬ nm sv 0
  nv_vv : Apart nv vv
  nv_sv : Apart nv sv
  vv_sv : Apart vv sv

theorem mv_n0 {h h' : AH} {v w : PV} (hx : 1 ≤ h.nx) (h0 : ¬ nm v 0) (m : Mv h v h' w) : ¬ nm w 0 := by
  rintro ⟨z, o, n, rfl⟩
  rcases m.2 with q | q | ⟨z', i', o', n', q, hi'⟩
  · exact h0 ⟨z, o, n, q.symm⟩
  · cases q
  · cases q; omega

section
variable {f : LFun} {cn cv cs cw : List PV} {n k m q : Nat} {nv vv sv w : PV} {c : Int} {h h1 : AH}
theorem OM.mvV (o : OM f cn n cv k cs m nv vv sv c h) (a : Acc h1 w 1 cw q) (mv : Mv h vv h1 w) : OM f cn n cw q cs m nv w sv c (h1.set 0 (.cells (wC f nv w .emp c false))) := by
  have g := mv.grow
  have hx := o.nx
  have w0 := mv_n0 hx o.v0 mv
  exact ⟨by show h1.lo = 0; rw [g.1]; exact o.lo, by show 1 ≤ h1.nx; omega, by rw [row_set, if_pos rfl], (o.an.mv mv o.nv_vv).set _ (nm_ne o.n0), a.set _ (nm_ne w0), (o.asv.mv mv o.vv_sv.symm).set _ (nm_ne o.s0), o.n0, w0, o.s0, o.nv_vv.mv mv o.an, o.nv_sv, (o.vv_sv.symm.mv mv o.asv).symm⟩
theorem OM.mvN (o : OM f cn n cv k cs m nv vv sv c h) (a : Acc h1 w 1 cw q) (mv : Mv h nv h1 w) : OM f cw q cv k cs m w vv sv c (h1.set 0 (.cells (wC f w vv .emp c false))) := by
  have g := mv.grow
  have hx := o.nx
  have w0 := mv_n0 hx o.n0 mv
  exact ⟨by show h1.lo = 0; rw [g.1]; exact o.lo, by show 1 ≤ h1.nx; omega, by rw [row_set, if_pos rfl], a.set _ (nm_ne w0), (o.av.mv mv o.nv_vv.symm).set _ (nm_ne o.v0), (o.asv.mv mv o.nv_sv.symm).set _ (nm_ne o.s0), w0, o.v0, o.s0, (o.nv_vv.symm.mv mv o.av).symm, (o.nv_sv.symm.mv mv o.asv).symm, o.vv_sv⟩
theorem OM.mvS (o : OM f cn n cv k cs m nv vv sv c h) (a : Acc h1 w 1 cw q) (mv : Mv h sv h1 w) : OM f cn n cv k cw q nv vv w c h1 := by
  have g := mv.grow
  have hx := o.nx
  have w0 := mv_n0 hx o.s0 mv
  exact ⟨by rw [g.1]; exact o.lo, by omega, by rw [mv.row (by omega) (nm_ne o.s0)]; exact o.r0, o.an.mv mv o.nv_sv, o.av.mv mv o.vv_sv, a, o.n0, o.v0, w0, o.nv_vv, o.nv_sv.mv mv o.an, o.vv_sv.mv mv o.av⟩
theorem OM.setV (o : OM f cn n cv k cs m nv vv sv c h) {j : Nat} (e : vv = .rf 1 j 0 k) (hl : cw.length = k) : OM f cn n cw k cs m nv vv sv c (h.set j (.cells cw)) := by
  have hj : nm vv j := ⟨_, _, _, e⟩
  have j0 : ¬ 0 = j := fun q => o.v0 (q ▸ hj)
  obtain ⟨jl, jo⟩ := acc_nm o.av hj
  exact ⟨o.lo, o.nx, by rw [row_set, if_neg j0]; exact o.r0, o.an.set _ fun z p n q => o.nv_vv.clash ⟨_, _, _, q⟩ hj, ⟨by simpa using hl, .inr ⟨j, e, by rw [row_set, if_pos rfl], jl, jo⟩⟩, o.asv.set _ fun z p n q => o.vv_sv.clash hj ⟨_, _, _, q⟩, o.n0, o.v0, o.s0, o.nv_vv, o.nv_sv, o.vv_sv⟩
theorem OM.setC (o : OM f cn n cv k cs m nv vv sv c h) (c' : Int) : OM f cn n cv k cs m nv vv sv c' (h.set 0 (.cells (wC f nv vv .emp c' false))) :=
  ⟨o.lo, o.nx, by rw [row_set, if_pos rfl], o.an.set _ (nm_ne o.n0), o.av.set _ (nm_ne o.v0), o.asv.set _ (nm_ne o.s0), o.n0, o.v0, o.s0, o.nv_vv, o.nv_sv, o.vv_sv⟩
end
attribute [local simp] evNilchk_pt
theorem nums_snoc (n : Nat) : nums (n + 1) = nums n ++ [(n : Int)] := by
  unfold nums; rw [List.range_succ, List.map_append]; rfl

theorem refOf_p (f : LFun) (hf : FitF f) : ∃ v, wRes f v ∧ Pure T 61 [.agg (Enc.c f)] v false := by
  have c80 := hf.code
  have v120 := hf.vars
  refine Pure_ex (c := c61) rfl rfl ?_
  by_cases hp : okP f
  case neg =>
    unfold okP at hp
    by_cases h0 : f.params < 0
    · simp [c61, h0]
      exact ⟨_, ⟨[], [], [], 0, true, rfl, .inr (.inr ⟨.inl hp, rfl⟩)⟩, by rw [snap_pt0 (by simp; rfl)]; simp [wR]⟩
    · have h1 : (f.vars.length : Int) < f.params := by omega
      simp [c61, h0, h1]
      exact ⟨_, ⟨[], [], [], 0, true, rfl, .inr (.inr ⟨.inl hp, rfl⟩)⟩, by rw [snap_pt0 (by simp; rfl)]; simp [wR]⟩
  have hp0 : ¬ f.params < 0 := by have := hp.1; omega
  have hp1 : ¬ (f.vars.length : Int) < f.params := by have := hp.2; omega
  obtain ⟨P, hP⟩ : ∃ P : Nat, f.params = (P : Nat) := ⟨f.params.toNat, by omega⟩
  have hPv : P ≤ f.vars.length := by omega
  simp [c61, hp0, hp1]
  refine WK_loop tgrow (fun k s' h' => s' 5 = .int .i64 (k : Nat) ∧ ∃ vv, OM f [] 0 (ils k (o0 f)) k ((nums (min k P)).map Enc.c).flatten (min k P) .emp vv (s' 4) 0 h') f.vars.length w61_0 (by decide) ?_ ?_
  · refine ⟨by simp, .emp, by simp, by simp, by simp [wC], Acc.emp, Acc.emp, ?_, fun ⟨_, _, _, q⟩ => (by cases q), fun ⟨_, _, _, q⟩ => (by cases q), ?_, Apart.emp _, Apart.emp _, Apart.emp _⟩
    · simp [nums]; exact Acc.emp
    · simp; rintro ⟨_, _, _, q⟩; cases q
  rintro k s1 h1 hk ⟨e5, vv, om⟩ hs1 hg1
  have f1 : s1 1 = .pi (Enc.c f) := (hs1 1 (by decide)).trans (by simp)
  have f3 : s1 3 = .pt 0 0 := (hs1 3 (by decide)).trans (by simp)
  clear hs1 hg1
  have lo1 := om.lo
  have hx1 := om.nx
  have r01 := om.r0
  have hk2 : k < 9223372036854775807 := by omega
  by_cases hkl : k < f.vars.length
  · simp [c61_0, e5, f1, f3, hkl, r01, wC, -WR_app]
    refine WR_app_acc (m := 1) (ys := [.int .i64 (-1)]) (by simpa using om.av) (by simp; exact src_psl rfl) (by rfl) (by omega) (room (by omega)) (fun w h2 ha2 mv2 => ?_)
    simp at mv2
    have lo2 : h2.lo = 0 := by rw [mv2.grow.1]; exact lo1
    have hx2 := mv2.grow.2
    have om3 := om.mvV ha2 mv2
    have f4 : h2.row 0 = some (wC f .emp vv .emp 0 false) := by rw [mv2.row (by omega) (nm_ne om.v0)]; exact r01
    obtain ⟨h3, e3⟩ : ∃ h3, h3 = h2.set 0 (.cells (wC f .emp w .emp 0 false)) := ⟨_, rfl⟩
    rw [← e3] at om3
    have r03 := om3.r0
    have lo3 := om3.lo
    have hx3 := om3.nx
    simp [wC, hP] at e3
    simp [f4, wC, lo2, ha2.one, f1, e5, hP]
    rw [← e3]
    obtain ⟨j, ej, rj⟩ := acc_rf om3.av (k := k) (by omega)
    by_cases hkP : k < P
    · have hset : (ils k (o0 f) ++ [PV.int .i64 (-1)]).set k (.int .i64 (k : Nat)) = ils (k + 1) (o0 f) := by
        rw [ils_at, ← ils_snoc]
        have : o0 f (k : Nat) = (k : Nat) := by unfold o0; rw [if_pos (by omega)]
        rw [this]
      have om4 := om3.setV (cw := ils (k + 1) (o0 f)) ej (by simp)
      obtain ⟨h4, e4⟩ : ∃ h4, h4 = h3.set j (.cells (ils (k + 1) (o0 f))) := ⟨_, rfl⟩
      rw [← e4] at om4
      have lo4 := om4.lo
      have hx4 := om4.nx
      rw [ej] at r03
      have hj0 : ¬ 0 = j := fun q => om3.v0 (q ▸ ⟨_, _, _, ej⟩)
      have hwl : k < (ils k (o0 f) ++ [PV.int .i64 (-1)]).length := by simp
      simp [hkP, f3, r03, wC, hP, evIdx_rf, e5, rj, lo3, hset, -WR_app]
      rw [← e4]
      have hm : min k P = k := Nat.min_eq_left (by omega)
      have hm' : min (k + 1) P = k + 1 := Nat.min_eq_left (by omega)
      rw [hm] at om4
      refine WR_app_acc (cs := ((nums k).map Enc.c).flatten) (n := k) (m := 1) (ys := [.int .i64 (k : Nat)]) (by simpa using om4.asv) (by simp; exact src_psl rfl) (by rfl) (by omega) (room (by omega)) (fun u h5 ha5 mv5 => ?_)
      simp at mv5
      have om5 := om4.mvS ha5 mv5
      simp [e5, hk2, hm', nums_snoc]
      exact ⟨w, by simpa using om5⟩
    · have hm : min k P = P := Nat.min_eq_right (by omega)
      have hm' : min (k + 1) P = P := Nat.min_eq_right (by omega)
      have hset : ils k (o0 f) ++ [PV.int .i64 (-1)] = ils (k + 1) (o0 f) := by
        rw [← ils_snoc]
        have : o0 f (k : Nat) = -1 := by unfold o0; rw [if_neg (by omega)]
        rw [this]
      rw [hm, hset] at om3
      simp [hkP, e5, hk2, hm']
      exact ⟨w, om3⟩
  have hkn : k = f.vars.length := by omega
  subst hkn
  have hm : min f.vars.length P = P := Nat.min_eq_right (by omega)
  rw [hm] at om
  simp [c61_0, e5, f1, f3, r01, wC, hP, lo1]
  have om2 := om.setC f.params
  obtain ⟨h2, e2⟩ : ∃ h2, h2 = h1.set 0 (.cells (wC f .emp vv .emp f.params false)) := ⟨_, rfl⟩
  rw [← e2] at om2
  simp [wC, hP] at e2
  rw [← e2]
  clear e2
  refine WK_loop tgrow (fun k s' h' => s' 6 = .int .i64 (k : Nat) ∧ ∃ nv, OM f (ils k fun _ => -1) k (ils f.vars.length (o0 f)) f.vars.length ((nums P).map Enc.c).flatten P nv vv (s' 4) f.params h') f.code.length w61_1 (by decide) ⟨by simp, .emp, by simpa [ils_zero] using om2⟩ ?_
  rintro k s2 h3 hk3 ⟨e6, nv, o3⟩ hs2 hg2
  have p1 : s2 1 = .pi (Enc.c f) := (hs2 1 (by decide)).trans (by simp [f1])
  have p3 : s2 3 = .pt 0 0 := (hs2 3 (by decide)).trans (by simp [f3])
  clear hs2 hg2
  have lo3 := o3.lo
  have hx3 := o3.nx
  have r03 := o3.r0
  have hk4 : k < 9223372036854775807 := by omega
  by_cases hkl : k < f.code.length
  · simp [c61_1, e6, p1, p3, hkl, r03, wC, hP, -WR_app]
    refine WR_app_acc (m := 1) (ys := [.int .i64 (-1)]) (by simpa using o3.an) (by simp; exact src_psl rfl) (by rfl) (by omega) (room (by omega)) (fun w h4 ha4 mv4 => ?_)
    simp at mv4
    have lo4 : h4.lo = 0 := by rw [mv4.grow.1]; exact lo3
    have hx4 := mv4.grow.2
    have o4 := o3.mvN ha4 mv4
    have r04 : h4.row 0 = some (wC f nv vv .emp f.params false) := by rw [mv4.row (by omega) (nm_ne o3.n0)]; exact r03
    simp [r04, wC, hP, lo4, ha4.one, e6, hk4]
    have := ils_snoc k fun _ => -1
    rw [this] at o4
    exact ⟨w, by simpa [wC, hP] using o4⟩
  have hkn : k = f.code.length := by omega
  subst hkn
  simp [c61_1, e6, p1, p3]
  have m3 : WM f (fun _ => -1) (o0 f) f.params false [] nv vv .emp h3 := ⟨lo3, hx3, r03, o3.an, o3.av, Acc.emp, o3.n0, o3.v0, (fun ⟨_, _, _, q⟩ => by cases q), o3.nv_vv, Apart.emp' _, Apart.emp' _⟩
  have so3 : So h3 (s2 4) (scL f []) nv vv .emp := by
    refine ⟨?_, fun i hi => ⟨fun q => o3.s0 (q ▸ hi), (acc_nm o3.asv hi).1, fun z => o3.nv_sv.clash z hi, fun z => o3.vv_sv.clash z hi, fun ⟨_, _, _, q⟩ => by cases q⟩⟩
    have hPt : f.params.toNat = P := by omega
    rw [scL_len, scL, hPt]
    simpa using o3.asv
  cases he : f.extern
  · simp [p1, p3]
    refine visitR_c hf hp (f.code.length + 1) f.body [] [] [] (fun _ => -1) (o0 f) .emp (s2 4) (Nums.nil _) (VN.nil _) (fun v q => by cases q) (by simp) (by simp) (fun x _ _ => by simp) (fun v v0 v1 => ?_) (by simpa using m3) so3 (fun t nd vs hfr e h' nd' vr' ov' cN cV m' g' => ?_) (fun e h' nd' vr' c' nodes' ov' m' g' => ?_)
    · rw [bdP_true]; unfold o0
      split
      · rename_i q; simp [q, v0]
      · rename_i q; simp [q]
    · have hS : shapeS f = some (t, nd, vs) := by
        unfold shapeS; rw [if_pos ⟨hfr.1, hfr.2.1⟩]; exact e
      simp [p3]
      exact ⟨_, ⟨_, _, _, _, _, rfl, .inl ⟨t, nd, vs, hp, he, hS, rfl, rfl, nd', cN, rfl⟩⟩, m'.end⟩
    · have hS : shapeS f = none := by
        unfold shapeS
        split
        · rename_i q
          rcases e with e | e
          · exact absurd ⟨q.1, q.2, by simp⟩ e
          · exact e
        · rfl
      simp [p3]
      exact ⟨_, ⟨_, _, _, _, _, rfl, .inr (.inr ⟨.inr ⟨he, hS⟩, rfl⟩)⟩, m'.end⟩
  · simp [p3]
    exact ⟨_, ⟨_, _, _, _, _, rfl, .inr (.inl ⟨hp, he, rfl⟩)⟩, m3.end⟩

section
variable {o : Bool} {h : AH} {d : Option Nat} {r : List COper} {κ : List KF} {s : Fr} {Q : Fr → AH → Prop}
/-- The visit, in the words of the tree. -/
theorem refOf_tree (f : LFun) (hf : FitF f) : ∃ NL VL OL c bad, Pure T 61 [.agg (Enc.c f)] (.pi (wR f NL VL OL c bad)) false ∧
    ((∃ t, treeS f = some t ∧ f.extern = false ∧ bad = false ∧ OL = t.pre ∧ ∃ ndf, corrN f ndf t.pre ∧ NL = (nums f.code.length).map ndf) ∨ (treeS f = none ∧ (bad = true ∨ f.extern = true))) := by
  obtain ⟨v, ⟨NL, VL, OL, c, bad, rfl, hv⟩, hP⟩ := refOf_p f hf
  refine ⟨NL, VL, OL, c, bad, hP, ?_⟩
  rcases hv with ⟨t, nd, vs, h1, h2, h3, h4, h5, ndf, h6, h7⟩ | ⟨h1, h2, h3⟩ | ⟨h1, h2⟩
  · obtain ⟨_, _, e, _⟩ := shapeS_ok h3
    have ht : treeS f = some t := by unfold treeS; rw [if_pos ⟨h1, h2⟩, h3]; rfl
    subst e
    exact .inl ⟨t, ht, h2, h4, h5, ndf, h6, h7⟩
  · have ht : treeS f = none := by unfold treeS; rw [if_neg fun q => by rw [h2] at q; cases q.2]
    exact .inr ⟨ht, .inr h2⟩
  · have ht : treeS f = none := by
      unfold treeS
      split
      · rename_i hc
        rcases h1 with q | q
        · exact absurd hc.1 q
        · rw [q.2]; rfl
      · rfl
    exact .inr ⟨ht, .inl h2⟩
theorem evNilchk_pi {cs : List PV} : evNilchk (.pi cs) = some (.pi cs) := rfl
theorem refShaped_p (f : LFun) (hf : FitF f) : ∃ b, Pure T 47 [.agg (Enc.c f)] (.bool b) true ∧ (b && !f.extern) = (treeS f).isSome := by
  obtain ⟨NL, VL, OL, c, bad, hP, hv⟩ := refOf_tree f hf
  have hr := fun {h d r κ s Q} => pureK_eq (o := false) (h := h) (d := d) (r := r) (κ := κ) (s := s) (Q := Q) hP (.inr rfl)
  simp only [c_LFun] at hr
  refine ⟨!bad, ⟨c47, rfl, rfl, ?_⟩, ?_⟩
  · simp [c47, hr, wR, evNilchk_pi]
  · rcases hv with ⟨t, h1, h2, h3, _⟩ | ⟨h1, h2 | h2⟩
    · simp [h1, h2, h3]
    · simp [h1, h2]
    · simp [h1, h2]
theorem refBad_ok (f : LFun) (hf : FitF f) {t : Tr} (ht : treeS f = some t) {a : Int} (ha : a ∈ t.pre) (a0 : 0 ≤ a) (a1 : a < (f.code.length : Int)) : Pure T 71 [.agg (Enc.c f), .int .i64 a] (.int .i64 0) true := by
  obtain ⟨NL, VL, OL, c, bad, hP, hv⟩ := refOf_tree f hf
  have hr := fun {h d r κ s Q} => pureK_eq (o := false) (h := h) (d := d) (r := r) (κ := κ) (s := s) (Q := Q) hP (.inr rfl)
  simp only [c_LFun] at hr
  rcases hv with ⟨t', h1, h2, rfl, h4, ndf, h5, rfl⟩ | ⟨h1, _⟩
  case inr => rw [ht] at h1; cases h1
  rw [ht] at h1; cases h1
  have n0 : ¬ a < 0 := by omega
  have n1 : ¬ (f.code.length : Int) ≤ a := by omega
  have hn := (h5 a a0 a1).2 ha
  have hn' : ¬ ndf a < 0 := by omega
  have hal : a.toNat < ((nums f.code.length).map ndf).length := by simp [nums_len]; omega
  have hg : ((nums f.code.length).map ndf)[a.toNat] = ndf a := by simp [nums, Int.max_eq_left a0]
  refine ⟨c71, rfl, rfl, ?_⟩
  generalize (nums f.code.length).map ndf = NL at *
  simp only [h2] at hr
  simp [c71, hr, wR, evNilchk_pi, h2, n0, n1, evIdx_sl, a0, hal, rd1_ptr, hg, hn']
end
end Go.Proofs.Ytbnfcdjlbabddaa

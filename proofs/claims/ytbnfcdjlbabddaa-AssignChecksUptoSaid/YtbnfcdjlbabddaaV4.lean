/- The reference: the visit of a function's nodes. -/
import Derived.Test.YtbnfcdjlbabddaaV3
set_option linter.unusedVariables false
set_option linter.unusedSimpArgs false
namespace Go.Proofs.Ytbnfcdjlbabddaa
open Go.Ev

attribute [local simp] evNilchk_pt
section
variable {f : LFun} {nd vr : Int → Int} {c : Int} {bad : Bool} {nodes : List Int} {nv vv ov : PV} {h : AH}
variable {d : Option Nat} {r : List COper} {κ : List KF} {s : Fr} {Q : Fr → AH → Prop}

theorem ils_gt {n : Nat} {k : Int} {p : Int → Int} (h0 : 0 ≤ k) (hk : k.toNat < (ils n p).length) : (ils n p)[k.toNat] = .int .i64 (p k) := by
  have h1 := ils_getI (p := p) h0 (show k.toNat < n by simpa using hk)
  rw [List.getElem?_eq_getElem hk] at h1
  exact Option.some.inj h1
theorem bindR_c (hf : FitF f) (m : WM f nd vr c bad nodes nv vv ov h) (hp : okP f) (v : Int)
    (yes : (f.params ≤ v ∧ v < (f.vars.length : Int) ∧ vr v < 0) → ∀ h', WM f nd (fun i => if i = v then c else vr i) (IntKind.i64.wrap (c + 1)) bad nodes nv vv ov h' → WG h nv vv ov h' ov → WR T r κ (Fr.put s d (.tup [])) h' Q)
    (no : ¬ (f.params ≤ v ∧ v < (f.vars.length : Int) ∧ vr v < 0) → ∀ h', WM f nd vr c true nodes nv vv ov h' → WG h nv vv ov h' ov → WR T r κ (Fr.put s d (.tup [])) h' Q) :
    callK T 78 [.pt 0 0, .int .i64 v] h d r κ s Q := by
  refine callK_shared (c := c78) rfl rfl rfl ?_
  have hp0 := hp.1
  have lo := m.lo
  have r0 := m.r0
  have fail := no
  by_cases h1 : v < f.params
  · simp [c78, r0, wC, h1, lo]
    exact no (by omega) _ (m.w0 c true) (WG.w0 _)
  by_cases h2 : (f.vars.length : Int) ≤ v
  · simp [c78, r0, wC, h1, h2, lo]
    exact no (by omega) _ (m.w0 c true) (WG.w0 _)
  have v0 : 0 ≤ v := by omega
  have v1 : v.toNat < f.vars.length := by omega
  obtain ⟨j, ej, rj⟩ := acc_rf m.av (k := v.toNat) v1
  have rj0 : ¬ 0 = j := fun q => m.v0 (q ▸ ⟨_, _, _, ej⟩)
  by_cases h3 : 0 ≤ vr v
  · have e := ej
    rw [ej] at r0
    simp [c78, r0, wC, h1, h2, h3, lo, evIdx_rfi v0 v1, rj, ils_getI v0 v1]
    rw [← e]
    exact no (by omega) _ (m.w0 c true) (WG.w0 _)
  · have e := ej
    rw [ej] at r0
    obtain ⟨m1, g1⟩ := m.setV (q := c) e v0
    simp [c78, r0, wC, h1, h2, h3, lo, evIdx_rfi v0 v1, rj, ils_getI v0 v1, ils_gt v0, v1, rj0]
    rw [← e]
    exact yes ⟨by omega, by omega, by omega⟩ _ (m1.w0 _ bad) (g1.trans (WG.w0 _))

theorem visitR_bad {a : Int} {sv : PV} (m : WM f nd vr c true nodes nv vv ov h) (next : ∀ h', WM f nd vr c true nodes nv vv ov h' → WG h nv vv ov h' ov → WR T r κ (Fr.put s d (.tup [])) h' Q) :
    callK T 70 [.pt 0 0, .int .i64 a, sv] h d r κ s Q := by
  refine callK_shared (c := c70) rfl rfl rfl ?_
  have lo := m.lo
  have r0 := m.r0
  simp [c70, r0, wC, lo]
  exact next _ (m.w0 c true) (WG.w0 _)

/-- The scope: the parameters, and some others. -/
def scL (f : LFun) (sc : List Int) : List Int := nums f.params.toNat ++ sc
theorem scL_snoc (f : LFun) (sc : List Int) (v : Int) : scL f (sc ++ [v]) = scL f sc ++ [v] := by unfold scL; rw [List.append_assoc]
theorem scL_len (f : LFun) (sc : List Int) : (scL f sc).length = f.params.toNat + sc.length := by unfold scL; rw [List.length_append, nums_len]
theorem inSc_nums {sc vars : List Int} (hp : okP f) (hv : VN f vars) (hs : ∀ v ∈ sc, v ∈ vars) {v : Int} : v ∈ scL f sc ↔ inSc f sc v := by
  have := hp.1
  have := hp.2
  unfold scL inSc
  rw [List.mem_append, mem_nums]
  constructor
  · rintro (q | q)
    · omega
    · have := hv.2 v (hs v q)
      exact ⟨this.1, this.2.2, .inr q⟩
  · rintro ⟨h0, h1, q | q⟩
    · exact .inl (by omega)
    · exact .inr q

def corrN (f : LFun) (nd : Int → Int) (nodes : List Int) : Prop := ∀ x, 0 ≤ x → x < (f.code.length : Int) → (0 ≤ nd x ↔ x ∈ nodes)
def corrV (f : LFun) (vr : Int → Int) (vars : List Int) : Prop := ∀ v, 0 ≤ v → v < (f.vars.length : Int) → (0 ≤ vr v ↔ bdP f vars v = true)
def fresh (f : LFun) (a : Int) (nodes : List Int) : Prop := 0 ≤ a ∧ a < (f.code.length : Int) ∧ a ∉ nodes

theorem okB_nil {bd : Int → Bool} : okB f bd [] := fun k hk => by cases hk
theorem okB_snoc {bd : Int → Bool} {l : List Int} {k : Nat} (hk : k < l.length) (h : okB f bd (l.take k)) (hn : newV f bd (l.take k) l[k]) : okB f bd (l.take (k + 1)) := by
  intro i hi
  have hi' : i < k + 1 := by rw [List.length_take] at hi; omega
  rw [List.getElem_take, List.take_take]
  by_cases q : i = k
  · subst q
    rw [Nat.min_eq_left (by omega)]
    exact hn
  · have h1 := h i (by rw [List.length_take]; omega)
    rw [List.getElem_take, List.take_take] at h1
    rw [Nat.min_eq_left (by omega)] at h1 ⊢
    exact h1
theorem newV_iff {vs pre : List Int} {vr : Int → Int} {v : Int} (hp : okP f) (c : corrV f vr (vs ++ pre)) : newV f (bdP f vs) pre v ↔ f.params ≤ v ∧ v < (f.vars.length : Int) ∧ vr v < 0 := by
  have := hp.1
  unfold newV
  constructor
  · rintro ⟨h0, h1, h2, h3⟩
    rw [bdP_false] at h2
    refine ⟨h2.1, h1, ?_⟩
    have := c v h0 h1
    rw [bdP_true] at this
    refine Int.not_le.1 fun q => ?_
    rcases this.1 q with q | q
    · omega
    · rcases List.mem_append.1 q with q | q
      · exact h2.2 q
      · exact h3 q
  · rintro ⟨h0, h1, h2⟩
    have h3 := c v (by omega) h1
    rw [bdP_true] at h3
    have h4 : v ∉ vs ++ pre := fun q => by have := h3.2 (.inr q); omega
    rw [List.mem_append] at h4
    exact ⟨by omega, h1, bdP_false.2 ⟨h0, fun q => h4 (.inl q)⟩, fun q => h4 (.inr q)⟩
theorem corrV_snoc {vs : List Int} {vr : Int → Int} {v c : Int} (h : corrV f vr vs) (hc : 0 ≤ c) : corrV f (fun i => if i = v then c else vr i) (vs ++ [v]) := by
  intro i i0 i1
  have h1 := h i i0 i1
  rw [bdP_true] at h1 ⊢
  rw [List.mem_append, List.mem_singleton]
  by_cases q : i = v
  · simp [q, hc]
  · simp [q, h1]
/-- While a list is bound. -/
def BD (f : LFun) (nd : Int → Int) (nodes : List Int) (nv vv ov : PV) (vs l : List Int) (k : Nat) (h : AH) : Prop := ∃ vr',
  (¬ okB f (bdP f vs) l ∧ ∃ c', WM f nd vr' c' true nodes nv vv ov h) ∨ (okB f (bdP f vs) (l.take k) ∧ corrV f vr' (vs ++ l.take k) ∧ WM f nd vr' (f.params + (vs ++ l.take k).length) false nodes nv vv ov h)
theorem BD.lo {vs l : List Int} {k : Nat} (b : BD f nd nodes nv vv ov vs l k h) : h.lo = 0 := by
  rcases b with ⟨_, ⟨_, _, q⟩ | ⟨_, _, q⟩⟩ <;> exact q.lo
theorem BD.mv {vs l : List Int} {k : Nat} (b : BD f nd nodes nv vv ov vs l k h) {h1 : AH} {u w : PV} (hu : ∀ i, nm u i → free3 h nv vv ov i) {z : Nat} {cs : List PV} {n : Nat} (a : Acc h1 w z cs n) (mv : Mv h u h1 w) : BD f nd nodes nv vv ov vs l k h1 ∧ ∀ i, nm w i → free3 h1 nv vv ov i := by
  rcases b with ⟨vr', ⟨x, c', q⟩ | ⟨x, y, q⟩⟩
  · obtain ⟨q1, q2⟩ := q.mv hu a mv
    exact ⟨⟨vr', .inl ⟨x, c', q1⟩⟩, q2⟩
  · obtain ⟨q1, q2⟩ := q.mv hu a mv
    exact ⟨⟨vr', .inr ⟨x, y, q1⟩⟩, q2⟩
theorem bindS (hf : FitF f) (hp : okP f) {vs l : List Int} {k : Nat} (hk : k < l.length) (hs : vs.length + l.length ≤ 10000) (b : BD f nd nodes nv vv ov vs l k h)
    (next : ∀ h', BD f nd nodes nv vv ov vs l (k + 1) h' → WG h nv vv ov h' ov → WR T r κ (Fr.put s d (.tup [])) h' Q) : callK T 78 [.pt 0 0, .int .i64 l[k]] h d r κ s Q := by
  have hp0 := hp.1
  have hp1 := hp.2
  have v120 := hf.vars
  rcases b with ⟨vr', ⟨x, c', q⟩ | ⟨x, y, q⟩⟩
  · refine bindR_c hf q hp l[k] (fun _ h' m' g' => ?_) (fun _ h' m' g' => ?_)
    · exact next h' ⟨_, .inl ⟨x, _, m'⟩⟩ g'
    · exact next h' ⟨_, .inl ⟨x, _, m'⟩⟩ g'
  · refine bindR_c hf q hp l[k] (fun hc h' m' g' => ?_) (fun hc h' m' g' => ?_)
    · have hn := (newV_iff (vs := vs) (pre := l.take k) hp y).2 hc
      refine next h' ⟨fun v => if v = l[k] then f.params + ((vs ++ l.take k).length : Int) else vr' v, .inr ⟨okB_snoc hk x hn, ?_, ?_⟩⟩ g'
      · rw [take_succ' hk, ← List.append_assoc]
        exact corrV_snoc y (by omega)
      · have e : f.params + ((vs ++ l.take (k + 1)).length : Int) = IntKind.i64.wrap (f.params + ((vs ++ l.take k).length : Int) + 1) := by
          rw [w64 (by rw [List.length_append, List.length_take]; omega), List.length_append, List.length_append, List.length_take, List.length_take]
          omega
        rw [e]
        exact m'
    · have hn : ¬ okB f (bdP f vs) l := fun z => hc ((newV_iff (vs := vs) (pre := l.take k) hp y).1 (z k hk))
      exact next h' ⟨_, .inl ⟨hn, _, m'⟩⟩ g'
theorem visitR_c (hf : FitF f) (hp : okP f) : ∀ (n : Nat) (a : Int) (sc nodes vars : List Int) (nd vr : Int → Int) (ov sv : PV) {h : AH} {d : Option Nat} {r : List COper} {κ : List KF} {s : Fr} {Q : Fr → AH → Prop},
    Nums f.code.length nodes → VN f vars → (∀ v ∈ sc, v ∈ vars) → sc.length ≤ vars.length → f.code.length + 1 ≤ n + nodes.length → corrN f nd nodes → corrV f vr vars →
    WM f nd vr (f.params + vars.length) false nodes nv vv ov h → So h sv (scL f sc) nv vv ov →
    (∀ t nodes' vars', fresh f a nodes → shV f n a sc nodes vars = some (t, nodes', vars') → ∀ h' nd' vr' ov', corrN f nd' nodes' → corrV f vr' vars' → WM f nd' vr' (f.params + vars'.length) false nodes' nv vv ov' h' → WG h nv vv ov h' ov' → WR T r κ (Fr.put s d (.tup [])) h' Q) →
    (¬ fresh f a nodes ∨ shV f n a sc nodes vars = none → ∀ h' nd' vr' c' nodes' ov', WM f nd' vr' c' true nodes' nv vv ov' h' → WG h nv vv ov h' ov' → WR T r κ (Fr.put s d (.tup [])) h' Q) →
    callK T 70 [.pt 0 0, .int .i64 a, sv] h d r κ s Q
  | 0, a, sc, nodes, vars, nd, vr, ov, sv, h, d, r, κ, s, Q, hn, hv, hsc, hscl, hlen, cN, cV, m, hso, yes, no => by
    have := hn.length; omega
  | n + 1, a, sc, nodes, vars, nd, vr, ov, sv, h, d, r, κ, s, Q, hn, hv, hsc, hscl, hlen, cN, cV, m, hso, yes, no => by
    refine callK_shared (c := c70) rfl rfl rfl ?_
    have lo := m.lo
    have r0 := m.r0
    have hnl := hn.length
    have hvl := hv.length
    have c80 := hf.code
    have v120 := hf.vars
    have hx := m.nx
    have hp0 := hp.1
    have hp1 := hp.2
    by_cases a0 : a < 0
    · simp [c70, r0, wC, a0, lo]
      exact no (.inl fun q => by have := q.1; omega) _ _ _ _ _ _ (m.w0 _ true) (WG.w0 _)
    by_cases a1 : (f.code.length : Int) ≤ a
    · simp [c70, r0, wC, a0, a1, lo]
      exact no (.inl fun q => by have := q.2.1; omega) _ _ _ _ _ _ (m.w0 _ true) (WG.w0 _)
    have h0 : 0 ≤ a := by omega
    have hal : a.toNat < f.code.length := by omega
    obtain ⟨j, ej, rj⟩ := acc_rf m.an (k := a.toNat) hal
    have rj0 : ¬ 0 = j := fun q => m.n0 (q ▸ ⟨_, _, _, ej⟩)
    by_cases a2 : 0 ≤ nd a
    · have e := ej
      rw [ej] at r0
      simp [c70, r0, wC, a0, a1, a2, lo, evIdx_rfi h0 hal, rj, ils_getI h0 hal, ils_gt h0, hal]
      rw [← e]
      exact no (.inl fun q => q.2.2 ((cN a h0 (by omega)).1 a2)) _ _ _ _ _ _ (m.w0 _ true) (WG.w0 _)
    have hfr : fresh f a nodes := ⟨h0, by omega, fun q => a2 ((cN a h0 (by omega)).2 q)⟩
    have e := ej
    rw [ej] at r0
    obtain ⟨m1, g1⟩ := m.setN (a := a) (q := (nodes.length : Nat)) e h0
    have hao := m1.ao
    simp [c70, r0, wC, a0, a1, a2, lo, evIdx_rfi h0 hal, rj, ils_getI h0 hal, ils_gt h0, hal, m.ao.len, rj0, -WR_app]
    rw [← e]
    have lo1 := m1.lo
    have hx1 := m1.nx
    generalize h.set j (.cells ((ils f.code.length nd).set a.toNat (.int .i64 (nodes.length : Nat)))) = h1 at *
    refine WR_app_acc (cs := (nodes.map Enc.c).flatten) (n := nodes.length) (m := 1) (ys := [.int .i64 a]) (by simpa using hao) (by simp; exact src_psl rfl) (by rfl) (by omega) (room (by omega)) (fun ov1 h2 ha2 mv2 => ?_)
    simp at mv2
    have ha2' : Acc h2 ov1 1 ((nodes ++ [a]).map Enc.c).flatten (nodes ++ [a]).length := by simpa using ha2
    have r02 : h2.row 0 = some (wC f nv vv ov (f.params + vars.length) false) := by rw [mv2.row (by omega) (nm_ne m1.o0)]; exact m1.r0
    obtain ⟨m2, g2⟩ := m1.order ha2' mv2
    obtain ⟨x, hxe⟩ : ∃ x, x = nodeAt f a := ⟨_, rfl⟩
    have hcx : f.code[a.toNat] = x := by rw [hxe, nodeAt_eq hal]
    have hfn := hf.node _ (nodeAt_mem hal)
    rw [← hxe] at hfn
    have lo2 : h2.lo = 0 := by rw [mv2.grow.1]; exact lo1
    obtain ⟨h4, e4⟩ : ∃ h4, h4 = (h2.set 0 (.cells (wC f nv vv ov1 (f.params + vars.length) false))).push (.cells (Enc.c x)) := ⟨_, rfl⟩
    have m4 := m2.push (Enc.c x)
    have g4 := (g1.trans g2).trans (WG.push (nv := nv) (vv := vv) (ov := ov1) (.cells (Enc.c x)))
    have f4 := m2.free_push (.cells (Enc.c x))
    have r4 : h4.row h2.nx = some (Enc.c x) := by rw [e4]; simp
    rw [← e4] at m4 g4
    rw [show (h2.set 0 (.cells (wC f nv vv ov1 (f.params + vars.length) false))).push (.cells (Enc.c x)) = h4 from e4.symm] at f4
    simp [wC] at e4
    simp [r02, wC, evIdx_sl, h0, rds_ptr, hal, lo2, hcx, usesR_r x hfn, ha2'.one]
    rw [← e4]
    have it0 : ¬ 0 = h2.nx := by have := mv2.grow.2; omega
    obtain ⟨it, hit⟩ : ∃ it, it = h2.nx := ⟨_, rfl⟩
    have f4 : free3 h4 nv vv ov1 it := by rw [hit]; exact f4
    rw [← hit] at r4 it0 ⊢
    clear e4
    have lo4 := m4.lo
    have hsn := (hso.gw g4 (by rw [lo4, lo])).acc.snap (m := 11) rfl (by decide)
    have hux := uses_fit hfn
    have hsp := shV_yes (f := f) (n := n) (a := a) (sc := sc) (nodes := nodes) (vars := vars)
    have hsn0 := shV_no (f := f) (n := n) (a := a) (sc := sc) (nodes := nodes) (vars := vars)
    rw [← hxe] at hsp hsn0
    refine WK_loop tgrow (fun k s' h' => s' 8 = .int .i64 (k : Nat) ∧ WG h4 nv vv ov1 h' ov1 ∧
      (((∀ v ∈ (uses x).take k, inSc f sc v) ∧ WM f (fun i => if i = a then ↑nodes.length else nd i) vr (f.params + vars.length) false (nodes ++ [a]) nv vv ov1 h') ∨
       (shV f (n + 1) a sc nodes vars = none ∧ WM f (fun i => if i = a then ↑nodes.length else nd i) vr (f.params + vars.length) true (nodes ++ [a]) nv vv ov1 h'))) (uses x).length w70_0 (by decide) ⟨by simp, WG.refl _ _ _ _, .inl ⟨by simp, m4⟩⟩ ?_
    rintro k s1 h5 hk ⟨e8, jg, jm⟩ hs1 hg1
    have f0 : s1 0 = .pt 0 0 := (hs1 0 (by decide)).trans (by simp)
    have f2 : s1 2 = sv := (hs1 2 (by decide)).trans (by simp)
    have f6 : s1 6 = .pt it 0 := (hs1 6 (by decide)).trans (by simp)
    have f7 : s1 7 = sl (uses x) := (hs1 7 (by decide)).trans (by simp)
    clear hs1 hg1 hsn
    have lo5 : h5.lo = 0 := by rcases jm with ⟨_, q⟩ | ⟨_, q⟩ <;> exact q.lo
    have hso5 := (hso.gw g4 (by rw [lo4, lo])).gw jg (by rw [lo5, lo4])
    have hsn := hso5.acc.snap (m := 11) rfl (by decide)
    obtain ⟨fr5, r5⟩ := row_gw jg f4 r4
    simp [c70_0, e8, f7]
    by_cases hkl : k < (uses x).length
    · have hk2 : k < 9223372036854775807 := by omega
      have hnl2 : (scL f sc).length ≤ 1000000 := by rw [scL_len]; omega
      by_cases hin : (uses x)[k] ∈ scL f sc
      · have hin' : inSc f sc (uses x)[k] := (inSc_nums hp hv hsc).1 hin
        simp [hkl, e8, f2, f7, evIdx_nat, rd1_ptr, hsn, inR21_r _ (uses x)[k] hnl2, hin, hk2]
        exact ⟨jg, jm.imp (fun q => ⟨mem_take_succ hkl q.1 hin', q.2⟩) id⟩
      · have hout : shV f (n + 1) a sc nodes vars = none := hsn0 fun q => hin ((inSc_nums hp hv hsc).2 (q _ (List.getElem_mem hkl)))
        rcases jm with ⟨_, jm⟩ | ⟨_, jm⟩
        · have r05 := jm.r0
          simp [hkl, e8, f0, f2, f7, evIdx_nat, rd1_ptr, hsn, inR21_r _ (uses x)[k] hnl2, hin, hk2, r05, wC, lo5]
          exact ⟨jg.trans (WG.w0 _), .inr ⟨hout, jm.w0 _ true⟩⟩
        · have r05 := jm.r0
          simp [hkl, e8, f0, f2, f7, evIdx_nat, rd1_ptr, hsn, inR21_r _ (uses x)[k] hnl2, hin, hk2, r05, wC, lo5]
          exact ⟨jg.trans (WG.w0 _), .inr ⟨hout, jm.w0 _ true⟩⟩
    have hkn : k = (uses x).length := by omega
    simp [hkl, f6, r5, kidsR_r x hfn]
    have hkl2 := kids_fit hfn
    have hel := edg_len x
    have cN2 : corrN f (fun i => if i = a then ↑nodes.length else nd i) (nodes ++ [a]) := fun y y0 y1 => by
      simp only [List.mem_append, List.mem_singleton]
      by_cases q : y = a
      · simp [q]
      · simp [q, cN y y0 y1]
    have gg5 := g4.trans jg
    have sz : ∀ b : Bool, (evBin .geq (.int .i64 0) (.int .i64 0)) = some (.bool true) := fun _ => rfl
    clear hkl e8
    refine WK_loop tgrow (fun k s' h' => s' 10 = .int .i64 (k : Nat) ∧ ∃ nd' vr' nodes' ov', WG h5 nv vv ov1 h' ov' ∧
      ((shV f (n + 1) a sc nodes vars = none ∧ ∃ c', WM f nd' vr' c' true nodes' nv vv ov' h') ∨
       ∃ ts vs', WM f nd' vr' (f.params + vs'.length) false nodes' nv vv ov' h' ∧ corrN f nd' nodes' ∧ corrV f vr' vs' ∧ Nums f.code.length nodes' ∧ VN f vs' ∧ nodes.length + 1 ≤ nodes'.length ∧ vars.length ≤ vs'.length ∧ (∀ v ∈ sc, v ∈ vs') ∧
        shV f (n + 1) a sc nodes vars = (shK (shV f n) f sc ((edg x).drop k) nodes' vs').map fun p => (.node a (ts ++ p.1), p.2.1, p.2.2))) (kids x).length w70_1 (by decide) ?_ ?_
    · refine ⟨by simp, (fun i => if i = a then (nodes.length : Int) else nd i), vr, nodes ++ [a], ov1, WG.refl _ _ _ _, ?_⟩
      rcases jm with ⟨q, jm⟩ | ⟨q, jm⟩
      · rw [hkn, List.take_length] at q
        refine .inr ⟨[], vars, jm, cN2, cV, hn.snoc hfr.2.2 ⟨hfr.1, hfr.2.1⟩, hv, by simp, Nat.le_refl _, hsc, ?_⟩
        rw [hsp q]; simp
      · exact .inl ⟨q, _, jm⟩
    rintro k2 s2 h6 hk2 ⟨e10, nd6, vr6, nodes6, ov6, g6, jm6⟩ hs2 hg2
    have p0 : s2 0 = .pt 0 0 := (hs2 0 (by decide)).trans (by simp [f0])
    have p2 : s2 2 = sv := (hs2 2 (by decide)).trans (by simp [f2])
    have p6 : s2 6 = .pt it 0 := (hs2 6 (by decide)).trans (by simp [f6])
    have p9 : s2 9 = sl (kids x) := (hs2 9 (by decide)).trans (by simp)
    clear hs2 hg2
    have gg6 := gg5.trans g6
    rcases jm6 with ⟨hno, c6, m6⟩ | ⟨ts, vs6, m6, cN6, cV6, hn6, hv6, hl6, hvl6, hsc6, heq⟩
    · have r06 := m6.r0
      by_cases hkl : k2 < (kids x).length
      · simp [c70_1, e10, p9, p0, hkl, r06, wC]
        exact no (.inr hno) _ _ _ _ _ _ m6 gg6
      · simp [c70_1, e10, p9, p0, hkl]
        exact no (.inr hno) _ _ _ _ _ _ m6 gg6
    by_cases hkl : k2 < (kids x).length
    case neg =>
      rw [List.drop_of_length_le (by omega)] at heq
      simp only [shK, Option.map_some, List.append_nil] at heq
      simp [c70_1, e10, p9, p0, hkl]
      exact yes _ _ _ hfr heq _ _ _ _ cN6 cV6 m6 gg6
    have r06 := m6.r0
    obtain ⟨fr6, r6⟩ := row_gw g6 fr5 r5
    have lo6 := m6.lo
    have hso6 := hso5.gw g6 (by rw [lo6, lo5])
    have hke : k2 < (edg x).length := by omega
    obtain ⟨ek1, ek2⟩ := edg_get hke
    have hl4 := edg_fit hfn _ (List.getElem_mem hke)
    rw [List.drop_eq_getElem_cons hke] at heq
    simp [c70_1, e10, p9, p0, p6, hkl, r06, wC, r6, bindsR_r x hfn]
    generalize hkk : (edg x)[k2] = e at *
    obtain ⟨kk, l⟩ := e
    simp only at ek1 ek2 hl4
    have jrow := r6
    simp only [c_LNode] at jrow
    have g15 : ∀ (hop : x.op = 9), ∃ hb : k2 < x.branches.length, x.branches[k2].binds = l := fun hop => by
      have hb : k2 < x.branches.length := by
        unfold edg at hke; rw [if_pos hop] at hke; simpa using hke
      rw [dif_pos hop] at ek2
      exact ⟨hb, ek2.symm⟩
    have g15' : ¬ x.op = 9 → binds x = l := fun hop => by rw [dif_neg hop] at ek2; exact ek2.symm
    refine condS_cut tgrow (fun s3 h3 => h3 = h6 ∧ s3 11 = sl l) [11, 112, 113, 114, 115, 116, 117] (by decide) (by decide) (by simp) (fun hc => ?_) (fun hc => ?_) (fun s3 h3 hP hs3 hg3 => ?_)
    · simp at hc
      obtain ⟨hb, e3⟩ := g15 hc
      simp [p6, jrow, e10, evIdx_nat, rd1_ptr, hb, e3]
    · simp at hc
      simp [g15' hc]
    obtain ⟨rfl, q11⟩ := hP
    have q0 : s3 0 = .pt 0 0 := (hs3 0 (by decide)).trans (by simp [p0])
    have q2 : s3 2 = sv := (hs3 2 (by decide)).trans (by simp [p2])
    have q6 : s3 6 = .pt it 0 := (hs3 6 (by decide)).trans (by simp [p6])
    have q9 : s3 9 = sl (kids x) := (hs3 9 (by decide)).trans (by simp [p9])
    have q10 : s3 10 = .int .i64 (k2 : Nat) := (hs3 10 (by decide)).trans (by simp [e10])
    clear hs3 hg3
    have hnl2 : (scL f sc).length ≤ 240 := by rw [scL_len]; omega
    simp [q2, -WR_app]
    refine WR_app_acc (cs := ([] : List PV)) (n := 0) (m := (scL f sc).length) (ys := ((scL f sc).map Enc.c).flatten) (by simp; exact Acc.emp) (by simpa using hso6.acc.src) (by simpa using flat_len' (scL f sc)) (by omega) (room (by omega)) (fun nv1 h7 ha7 mv7 => ?_)
    simp at mv7
    have ha7' : Acc h7 nv1 1 ((scL f sc).map Enc.c).flatten (scL f sc).length := by simpa using ha7
    have lo7 : h7.lo = 0 := by rw [mv7.grow.1]; exact lo6
    obtain ⟨m7, fr7⟩ := m6.mv (u := .emp) (fun i ⟨_, _, _, q⟩ => by cases q) ha7' mv7
    have g7 : WG h3 nv vv ov6 h7 ov6 := (WG.refl _ _ _ _).mv (u := .emp) (fun i ⟨_, _, _, q⟩ => by cases q) mv7
    have nn7 : ∀ i, nm nv1 i → h3.nx ≤ i := by
      rintro i ⟨z, o, n, rfl⟩
      rcases mv7.2 with q | q | ⟨z', i', o', n', q, hi'⟩
      · cases q
      · cases q
      · cases q; exact hi'
    simp
    refine WK_loop tgrow (fun q s' h' => s' 13 = .int .i64 (q : Nat) ∧ WG h3 nv vv ov6 h' ov6 ∧ So h' (s' 12) (scL f (sc ++ l.take q)) nv vv ov6 ∧ (∀ i, nm (s' 12) i → h3.nx ≤ i) ∧ BD f nd6 nodes6 nv vv ov6 vs6 l q h') l.length w70_2 (by decide) ?_ ?_
    · refine ⟨by simp, g7, ⟨by simpa using ha7', fr7⟩, nn7, vr6, .inr ⟨by simpa using okB_nil, by simpa using cV6, by simpa using m7⟩⟩
    rintro k8 s8 h8 hk8 ⟨e13, g8, so8, nn8, jm8⟩ hs8 hg8
    have w0 : s8 0 = .pt 0 0 := (hs8 0 (by decide)).trans (by simp [q0])
    have w9 : s8 9 = sl (kids x) := (hs8 9 (by decide)).trans (by simp [q9])
    have w10 : s8 10 = .int .i64 (k2 : Nat) := (hs8 10 (by decide)).trans (by simp [q10])
    have w11 : s8 11 = sl l := (hs8 11 (by decide)).trans (by simp [q11])
    clear hs8 hg8
    have lo8 : h8.lo = 0 := jm8.lo
    have hvl6 := hv6.length
    by_cases hkl8 : k8 < l.length
    · have hk9 : k8 < 9223372036854775807 := by omega
      have hsl : (scL f (sc ++ l.take k8)).length ≤ 1000 := by rw [scL_len, List.length_append, List.length_take]; omega
      have hslo : h8.lo ≤ h8.nx := by omega
      simp [c70_2, e13, w11, hkl8, w0, evIdx_nat, rd1_ptr]
      refine bindS hf hp hkl8 (by omega) jm8 (fun h9 jm9 g9 => ?_)
      have lo9 := jm9.lo
      have so9 := so8.gw g9 (by rw [lo9, lo8])
      simp [w11, e13, evIdx_nat, rd1_ptr, hkl8, -WR_app]
      refine WR_app_acc (m := 1) (ys := [.int .i64 l[k8]]) (by simpa using so9.acc) (by simp; exact src_psl rfl) (by rfl) (by omega) (room (by omega)) (fun nv9 h10 ha10 mv10 => ?_)
      simp at mv10
      have e10 : sc ++ l.take (k8 + 1) = (sc ++ l.take k8) ++ [l[k8]] := by rw [take_succ' hkl8, List.append_assoc]
      have ha10' : Acc h10 nv9 1 ((scL f (sc ++ l.take (k8 + 1))).map Enc.c).flatten (scL f (sc ++ l.take (k8 + 1))).length := by
        rw [e10, scL_snoc]; simpa using ha10
      obtain ⟨jm10, fr10⟩ := jm9.mv so9.free ha10' mv10
      simp [e13, hk9]
      refine ⟨(g8.trans g9).mv nn8 mv10, ⟨ha10', fr10⟩, ?_, jm10⟩
      rintro i ⟨z, o, n, rfl⟩
      rcases mv10.2 with q | q | ⟨z', i', o', n', q, hi'⟩
      · exact nn8 i ⟨_, _, _, q.symm⟩
      · cases q
      · cases q
        have := g8.nx; have := g9.nx; omega
    have hkn8 : k8 = l.length := by omega
    subst hkn8
    rw [List.take_length] at so8
    simp [c70_2, e13, w11, w0, w9, w10, evIdx_nat, rd1_ptr, hkl, ← ek1]
    have hk3 : k2 < 9223372036854775807 := by omega
    rcases jm8 with ⟨vr8, ⟨hnok, c8, m8⟩ | ⟨hok, cV8, m8⟩⟩
    · have hno : shV f (n + 1) a sc nodes vars = none := by
        rw [heq, shK_no fun q => hnok q.2]; rfl
      refine visitR_bad m8 (fun h9 m9 g9 => ?_)
      simp [w10, hk3]
      exact ⟨nd6, vr8, nodes6, ov6, g6.trans (g8.trans g9), .inl ⟨hno, c8, m9⟩⟩
    rw [List.take_length] at hok cV8 m8
    have hnew := okB_new hok
    refine visitR_c hf hp n kk (sc ++ l) nodes6 (vs6 ++ l) nd6 vr8 ov6 (s8 12) hn6 (hv6.app hok) (fun v hv => ?_) (by simp; omega) (by omega) cN6 cV8 m8 so8 (fun t nd9 vs9 hfr9 he h9 nd9' vr9 ov9 cN9 cV9 m9 g9 => ?_) (fun he h9 nd9' vr9 c9 nodes9 ov9 m9 g9 => ?_)
    · rcases List.mem_append.1 hv with q | q
      · exact List.mem_append_left _ (hsc6 v q)
      · exact List.mem_append_right _ q
    · obtain ⟨u1, u2, u3, u4⟩ := shV_props n _ _ _ _ _ _ _ hfr9 hn6 (hv6.app hok) he
      have hle := u3.length_le
      have hle2 := u4.length_le
      simp at hle hle2
      simp [w10, hk3]
      refine ⟨nd9', vr9, nd9, ov9, g6.trans (g8.trans g9), .inr ⟨ts ++ [t], vs9, m9, cN9, cV9, u1, u2, by omega, by omega, fun v hv => u4.subset (List.mem_append_left _ (hsc6 v hv)), ?_⟩⟩
      rw [heq, shK_some ⟨hfr9, hok⟩ he, Option.map_map]
      simp [Function.comp_def]
    · have hno : shV f (n + 1) a sc nodes vars = none := by
        by_cases q : fresh f kk nodes6
        · rcases he with he | he
          · exact absurd q he
          · rw [heq, shK_none ⟨q, hok⟩ he]; rfl
        · rw [heq, shK_no fun z => q z.1]; rfl
      simp [w10, hk3]
      exact ⟨nd9', vr9, nodes9, ov9, g6.trans (g8.trans g9), .inl ⟨hno, c9, m9⟩⟩
end
end Go.Proofs.Ytbnfcdjlbabddaa

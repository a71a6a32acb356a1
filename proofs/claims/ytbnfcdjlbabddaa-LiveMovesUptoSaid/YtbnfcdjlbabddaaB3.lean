/- The shape of a function: the visit. -/
import Derived.Test.YtbnfcdjlbabddaaS1
set_option linter.unusedVariables false
set_option linter.unusedSimpArgs false
namespace Go.Proofs.Ytbnfcdjlbabddaa
open Go.Ev

/-- The limits of a function. -/
structure FitF (f : LFun) : Prop where
  vars : f.vars.length ≤ 120
  code : f.code.length ≤ 80
  node : ∀ n ∈ f.code, FitN n

theorem nodeAt_mem {f : LFun} {a : Int} (h : a.toNat < f.code.length) : nodeAt f a ∈ f.code := by
  simp [nodeAt, h]
theorem nodeAt_eq {f : LFun} {a : Int} (h : a.toNat < f.code.length) : nodeAt f a = f.code[a.toNat] := by simp [nodeAt, h]
theorem edg_len (n : LNode) : (edg n).length = (kids n).length := by
  unfold edg
  split
  · rename_i h
    have : isNext 9 = false := by decide
    simp [kids, h, this]
  · simp
theorem edg_get {n : LNode} {k : Nat} (hk : k < (edg n).length) : (edg n)[k].1 = (kids n)[k]'(by rw [← edg_len]; exact hk) ∧ (edg n)[k].2 = if h : n.op = 9 then (n.branches[k]'(by unfold edg at hk; rw [if_pos h] at hk; simpa using hk)).binds else binds n := by
  by_cases h : n.op = 9
  · have h1 : isNext 9 = false := by decide
    simp [edg, kids, h, h1]
  · simp [edg, h]
theorem kids_fit {n : LNode} (h : FitN n) : (kids n).length ≤ 20 := by
  unfold kids
  split
  · simp
  · split
    · simpa using h.2.2.1
    · simp
theorem binds_fit {n : LNode} (h : FitN n) : (binds n).length ≤ 400 := by
  unfold binds
  split
  · simp
  · split
    · refine Nat.le_trans (flatMap_len (m := 20) h.2.2.2) ?_
      have := h.2.2.1
      omega
    · simp
theorem uses_fit {n : LNode} (h : FitN n) : (uses n).length ≤ 40 := by
  unfold uses
  split
  · simp
  · split
    · refine Nat.le_trans (List.length_filter_le _ _) ?_
      rw [List.length_append]
      have := h.1; have := h.2.1
      omega
    · have := h.1; omega
theorem edg_fit {n : LNode} (h : FitN n) : ∀ e ∈ edg n, e.2.length ≤ 400 := by
  intro e he
  unfold edg at he
  split at he
  · obtain ⟨b, hb, rfl⟩ := List.mem_map.1 he
    have := h.2.2.2 b hb
    simp only
    omega
  · obtain ⟨b, hb, rfl⟩ := List.mem_map.1 he
    exact binds_fit h

/-- Where a list's members are. -/
def mem (l : List Int) : Int → Bool := fun i => decide (i ∈ l)
theorem mem_snoc (l : List Int) (k : Int) : (fun i => if i = k then true else mem l i) = mem (l ++ [k]) := by
  funext i
  simp only [mem, List.mem_append, List.mem_singleton]
  by_cases h1 : i = k <;> simp [h1]

theorem acc_lt {h : AH} {v : PV} {z : Nat} {cs : List PV} {n i : Nat} (a : Acc h v z cs n) (hn : nm v i) : i < h.nx := by
  obtain ⟨z', o, n', rfl⟩ := hn
  obtain ⟨_, ⟨q, _⟩ | ⟨j, q, _, hj, _⟩⟩ := a
  · cases q
  · cases q; exact hj
/-- A block of another's. -/
structure Kp (it : Nat) (cs : List PV) (h : AH) (nv vv : PV) : Prop where
  ge : 13 ≤ it
  lt : it < h.nx
  n0 : ¬ nm nv it
  n1 : ¬ nm vv it
  row : h.row it = some cs
theorem Kp.gw {it : Nat} {cs : List PV} {h h' : AH} {nv vv nv' vv' : PV} (k : Kp it cs h nv vv) (g : Gw h nv vv h' nv' vv') : Kp it cs h' nv' vv' := by
  have := k.lt
  refine ⟨k.ge, by have := g.nx; omega, fun q => ?_, fun q => ?_, ?_⟩
  · rcases g.n0 _ q with q | q
    · exact k.n0 q
    · omega
  · rcases g.n1 _ q with q | q
    · exact k.n1 q
    · omega
  · have := g.keep it k.ge k.lt k.n0 k.n1
    simp only [AH.row, this]
    exact k.row

section
variable {f : LFun} {ok : Bool} {nv vv : PV} {h : AH}
variable {d : Option Nat} {r : List COper} {κ : List KF} {s : Fr} {Q : Fr → AH → Prop}

theorem visit_c (hf : FitF f) : ∀ (n : Nat) (a : Int) (sc nodes vars : List Int) (nv vv : PV) {h : AH} {d : Option Nat} {r : List COper} {κ : List KF} {s : Fr} {Q : Fr → AH → Prop},
    (0 ≤ a ∧ a < (f.code.length : Int) ∧ a ∉ nodes) → Nums f.code.length nodes → VN f vars → (∀ v ∈ sc, v ∈ vars) → f.code.length + 1 ≤ n + nodes.length →
    SM f (mem (nodes ++ [a])) (bdP f vars) (bdP f sc) nodes vars true nv vv h →
    (∀ t nd vs, shV f n a sc nodes vars = some (t, nd, vs) → ∀ h' nv' vv', SM f (mem nd) (bdP f vs) (bdP f sc) nd vs true nv' vv' h' → Gw h nv vv h' nv' vv' → WR T r κ (Fr.put s d (.tup [])) h' Q) →
    (shV f n a sc nodes vars = none → ∀ h' rch bd sc' nd vs nv' vv', SM f rch bd sc' nd vs false nv' vv' h' → Gw h nv vv h' nv' vv' → WR T r κ (Fr.put s d (.tup [])) h' Q) →
    callK T 60 [.int .i64 a, .pi (Enc.c f), .pt 0 0, .pt 7 0, .pt 8 0, .pt 9 0, .pt 10 0, .pt 12 0, .pt 11 0] h d r κ s Q
  | 0, a, sc, nodes, vars, nv, vv, h, d, r, κ, s, Q, ha, hn, hv, hsc, hlen, m, yes, no => by have := hn.length; omega
  | n + 1, a, sc, nodes, vars, nv, vv, h, d, r, κ, s, Q, ha, hn, hv, hsc, hlen, m, yes, no => by
    refine callK_shared (c := c60) rfl rfl rfl ?_
    have hnl := hn.length
    have hvl := hv.length
    have c80 := hf.code
    have v120 := hf.vars
    have hal : a.toNat < f.code.length := by omega
    have hfn := hf.node _ (nodeAt_mem hal)
    have lo := m.lo
    have hx := m.nx
    have hlw : h.lo ≤ h.nx := by omega
    have n0 : ¬ 0 = h.nx := by omega
    obtain ⟨x, hxe⟩ : ∃ x, x = nodeAt f a := ⟨_, rfl⟩
    have hcx : f.code[a.toNat] = x := by rw [hxe, nodeAt_eq hal]
    rw [← hxe] at hfn
    simp [c60, evIdx_sl, ha.1, rds_ptr, hal, hlw, m.r0, n0, hcx, -WR_app]
    have m1 := m.push (Enc.c x)
    have g1 : Gw h nv vv (h.push (.cells (Enc.c x))) nv vv := Gw.push _
    have kp1 : Kp h.nx (Enc.c x) (h.push (.cells (Enc.c x))) nv vv := ⟨hx, by simp, fun q => by have := acc_lt m.a0 q; omega, fun q => by have := acc_lt m.a1 q; omega, by simp⟩
    rw [show h.push (.cells [PV.int .i64 x.op, PV.int .i64 x.var, sl x.args, PV.int .i64 x.con, PV.int .i64 x.num, PV.int .i64 x.fn, sl x.more, PV.bool x.take, sl x.branches, PV.int .i64 x.next]) = h.push (.cells (Enc.c x)) from rfl]
    generalize h.push (.cells (Enc.c x)) = h1 at *
    generalize h.nx = it at *
    refine WR_app_acc (cs := (nodes.map Enc.c).flatten) (n := nodes.length) (m := 1) (ys := [.int .i64 a]) (by simpa using m1.a0) (by simp; exact src_psl rfl) (by rfl) (by have := m1.lo; omega) (room (by omega)) (fun v1 h2 ha1 hm1 => ?_)
    try simp at hm1
    have ha1' : Acc h2 v1 1 ((nodes ++ [a]).map Enc.c).flatten (nodes ++ [a]).length := by simpa using ha1
    obtain ⟨m2, g2⟩ := m1.node ha1' hm1
    have r0 : h2.row 0 = some [nv] := by rw [hm1.row (by have := m1.nx; omega) fun z o n e => by have := m1.n0 0 ⟨z, o, n, e⟩; omega]; exact m1.r0
    have lo2 : h2.lo = 0 := by rw [hm1.grow.1]; exact m1.lo
    have kp2 := kp1.gw g2
    have g2' := g1.trans g2
    have it0 : ¬ it = 0 := by have := kp2.ge; omega
    have e2 : h2.row it = some (Enc.c x) := by
      have := kp2.row
      rw [row_set, if_neg it0] at this
      exact this
    simp [r0, ha1'.one, lo2, it0, e2, uses_r x hfn]
    have lo3 := m2.lo
    have hux := uses_fit hfn
    generalize h2.set 0 (.cells [v1]) = h3 at *
    refine WK_range tgrow (fun k s' h' => h' = h3 ∧ ∀ v ∈ (uses x).take k, inSc f sc v) (uses x).length w60_0 rfl (by decide) (by simp) (by simp) (by omega) (by decide) (fun _ _ _ _ j _ => j) (by simp) ?_ ?_
    · rintro k s' h' hk ⟨rfl, jn⟩ hi hs hg
      have f26 : s' 26 = sl (uses x) := (hs 26 (by decide)).trans (by simp)
      have f1 : s' 1 = .pi (Enc.c f) := (hs 1 (by decide)).trans (by simp)
      have f3 : s' 3 = .pt 7 0 := (hs 3 (by decide)).trans (by simp)
      have f4 : s' 4 = .pt 8 0 := (hs 4 (by decide)).trans (by simp)
      have bad : ¬ inSc f sc (uses x)[k] → shV f (n + 1) a sc nodes vars = none := fun q =>
        shV_no fun z => q (z _ (by rw [← hxe]; exact List.getElem_mem hk))
      have fin : ¬ inSc f sc (uses x)[k] → ∀ s'' : Fr, WR T r κ (Fr.put s d (.tup [])) (h'.set 8 (.cells [.bool false])) Q := fun q _ =>
        no (bad q) _ _ _ _ _ _ _ _ (m2.fail false) (g2'.trans (Gw.set (by omega) _))
      simp [hi, f26, f1, evIdx_nat, rd1_ptr, hk]
      by_cases h0 : (uses x)[k] < 0
      · simp [h0, f4, m2.r8, lo3]
        exact fin (fun q => by have := q.1; omega) s'
      · by_cases h1 : (f.vars.length : Int) ≤ (uses x)[k]
        · simp [h0, h1, f1, f4, m2.r8, lo3]
          exact fin (fun q => by have := q.2.1; omega) s'
        · have h0' : 0 ≤ (uses x)[k] := by omega
          have hkl : (uses x)[k].toNat < f.vars.length := by omega
          simp [h0, h1, f1, f3, m2.r7, evIdx_rfi h0' hkl, m2.r6, bls_getI h0' hkl]
          cases hb : bdP f sc (uses x)[k]
          · simp [f4, m2.r8, lo3]
            exact fin (fun q => by rw [bdP_true.2 q.2.2] at hb; cases hb) s'
          · have hin : inSc f sc (uses x)[k] := ⟨h0', by omega, bdP_true.1 hb⟩
            simp [hi]
            exact mem_take_succ hk jn hin
    · rintro s' h' ⟨rfl, jn⟩ hs hg
      rw [List.take_length] at jn
      have f1 : s' 1 = .pi (Enc.c f) := (hs 1 (by decide)).trans (by simp)
      have f4 : s' 4 = .pt 8 0 := (hs 4 (by decide)).trans (by simp)
      have f5 : s' 5 = .pt 9 0 := (hs 5 (by decide)).trans (by simp)
      have f6 : s' 6 = .pt 10 0 := (hs 6 (by decide)).trans (by simp)
      have f7 : s' 7 = .pt 12 0 := (hs 7 (by decide)).trans (by simp)
      have f8 : s' 8 = .pt 11 0 := (hs 8 (by decide)).trans (by simp)
      have f10 : s' 10 = .pt it 0 := (hs 10 (by decide)).trans (by simp)
      simp [f10, kp2.row, kids_r x hfn]
      have hsp := shV_yes (n := n) (nodes := nodes) (vars := vars) (hxe ▸ jn)
      rw [← hxe] at hsp
      have hkl := kids_fit hfn
      have hel := edg_len x
      clear jn
      refine WK_range tgrow (fun k s' h1 => ∃ (ts : List Tr) (nd vs : List Int) (nv' vv' : PV), shK (shV f n) f sc (edg x) (nodes ++ [a]) vars = (shK (shV f n) f sc ((edg x).drop k) nd vs).map (fun p => (ts ++ p.1, p.2.1, p.2.2)) ∧ Nums f.code.length nd ∧ VN f vs ∧ nodes.length + 1 ≤ nd.length ∧ (∀ v ∈ sc, v ∈ vs) ∧
        SM f (mem nd) (bdP f vs) (bdP f sc) nd vs true nv' vv' h1 ∧ Gw h nv vv h1 nv' vv' ∧ Kp it (Enc.c x) h1 nv' vv') (kids x).length w60_1 rfl (by decide) (by simp) (by simp) (by omega) (by decide) (fun _ _ _ _ j _ => j)
        ⟨[], nodes ++ [a], vars, v1, vv, by simp, hn.snoc ha.2.2 ⟨ha.1, ha.2.1⟩, hv, by simp, hsc, m2, g2', kp2⟩ ?_ ?_
      · rintro k s1 h1 hk ⟨ts, nd, vs, nv1, vv1, je, jn, jv, jl, jsc, jm, jg, jk⟩ hi hs1 hg1
        have f50 : s1 50 = sl (kids x) := (hs1 50 (by decide)).trans (by simp)
        have f4 : s1 4 = .pt 8 0 := (hs1 4 (by decide)).trans (by simp [f4])
        have f5 : s1 5 = .pt 9 0 := (hs1 5 (by decide)).trans (by simp [f5])
        have f6 : s1 6 = .pt 10 0 := (hs1 6 (by decide)).trans (by simp [f6])
        have f7 : s1 7 = .pt 12 0 := (hs1 7 (by decide)).trans (by simp [f7])
        have f8 : s1 8 = .pt 11 0 := (hs1 8 (by decide)).trans (by simp [f8])
        have f10 : s1 10 = .pt it 0 := (hs1 10 (by decide)).trans (by simp [f10])
        have hke : k < (edg x).length := by omega
        obtain ⟨ek1, ek2⟩ := edg_get hke
        have hdrop := List.drop_eq_getElem_cons hke
        have hl4 := edg_fit hfn _ (List.getElem_mem hke)
        have hjl := jn.length
        have hjvl := jv.length
        have lo1 := jm.lo
        simp [hi, f50, evIdx_nat, rd1_ptr, hk, f10, jk.row, binds_r x hfn]
        generalize hkk : (edg x)[k] = e at *
        obtain ⟨kk, l⟩ := e
        simp only at ek1 ek2 hl4
        rw [← ek1]
        have jrow := jk.row
        simp only [c_LNode] at jrow
        have g15 : ∀ (hop : x.op = 9), ∃ hb : k < x.branches.length, x.branches[k].binds = l := fun hop => by
          have hb : k < x.branches.length := by
            unfold edg at hke; rw [if_pos hop] at hke; simpa using hke
          rw [dif_pos hop] at ek2
          exact ⟨hb, ek2.symm⟩
        have g15' : ¬ x.op = 9 → binds x = l := fun hop => by rw [dif_neg hop] at ek2; exact ek2.symm
        refine condS_cut tgrow (fun s3 h3 => h3 = h1 ∧ s3 15 = sl l) [15, 62, 63, 64, 65, 66, 67] (by decide) (by decide) (by simp) (fun hc => ?_) (fun hc => ?_) (fun s3 h3 hP hs3 hg3 => ?_)
        · simp at hc
          obtain ⟨hb, e3⟩ := g15 hc
          simp [f10, jrow, evIdx_nat, rd1_ptr, hb, e3]
        · simp at hc
          simp [g15' hc]
        · obtain ⟨rfl, p15⟩ := hP
          have p5 : s3 5 = .pt 9 0 := (hs3 5 (by decide)).trans (by simp [f5])
          have p6 : s3 6 = .pt 10 0 := (hs3 6 (by decide)).trans (by simp [f6])
          have p7 : s3 7 = .pt 12 0 := (hs3 7 (by decide)).trans (by simp [f7])
          have p8 : s3 8 = .pt 11 0 := (hs3 8 (by decide)).trans (by simp [f8])
          have p4 : s3 4 = .pt 8 0 := (hs3 4 (by decide)).trans (by simp [f4])
          have p14 : s3 14 = .int .i64 kk := (hs3 14 (by decide)).trans (by simp)
          have p52 : s3 52 = .int .i64 (k : Nat) := (hs3 52 (by decide)).trans (by simp [hi])
          clear hs3 hs1 hg1 hg3 hs hg
          have hvb1 : 57 < vb := by decide
          have hvb2 : 58 < vb := by decide
          have hvb3 : 59 < vb := by decide
          have hvb4 : 60 < vb := by decide
          have r9 := jm.r9
          rw [hdrop] at je
          simp [p5, p14, jm.r9, hvb1]
          refine reach_c jm kk (fun hfr h4 m4 g4 => ?_) (fun hnf => ?_)
          · rw [mem_snoc] at m4
            have hfr' : 0 ≤ kk ∧ kk < (f.code.length : Int) ∧ kk ∉ nd := ⟨hfr.1, hfr.2.1, by have := hfr.2.2; simpa [mem] using this⟩
            simp [p6, p15, m4.r10, hvb2]
            refine bind_c m4 l (by omega) (by omega) (fun hok h5 vv5 m5 g5 => ?_) (fun hnok h5 bd5 sc5 vs5 vv5 m5 g5 => ?_)
            · rw [bdP_app] at m5
              rw [bdP_app] at m5
              have hcond := And.intro hfr' hok
              have hnew := okB_new hok
              have gg5 := jg.trans (g4.trans g5)
              simp [p7, p14, m5.r12, hvb4]
              refine visit_c hf n kk (sc ++ l) nd (vs ++ l) nv1 vv5 hfr' jn (jv.app hok) (fun v hv => ?_) (by omega) m5 (fun t nd6 vs6 he h6 nv6 vv6 m6 g6 => ?_) (fun he h6 rch6 bd6 sc6 nd6 vs6 nv6 vv6 m6 g6 => ?_)
              · rcases List.mem_append.1 hv with q | q
                · exact List.mem_append_left _ (jsc v q)
                · exact List.mem_append_right _ q
              · obtain ⟨q1, q2, q3, q4⟩ := shV_props n _ _ _ _ _ _ _ hfr' jn (jv.app hok) he
                have hscf : ∀ v ∈ l, bdP f sc v = false := fun v hv => bdP_false.2 ⟨(hnew v hv).2.1, fun q => (hnew v hv).2.2.2 (jsc v q)⟩
                have hle := q3.length_le
                simp at hle
                simp [p4, m6.r8, p8, p15, m6.r11, hvb3]
                refine leave_c m6 l (by omega) (fun v hv => ⟨(hnew v hv).1, (hnew v hv).2.2.1⟩) (fun h7 m7 g7 => ?_)
                rw [bdP_leave hscf] at m7
                have gg7 := (gg5.trans g6).trans g7
                simp [p52]
                refine ⟨ts ++ [t], nd6, vs6, ?_, q1, q2, by omega, fun v hv => q4.subset (List.mem_append_left _ (jsc v hv)), nv6, vv6, m7, gg7, jk.gw ((g4.trans g5).trans (g6.trans g7))⟩
                rw [je, shK_some hcond he, Option.map_map]
                simp [Function.comp_def]
              · have hno : shV f (n + 1) a sc nodes vars = none := by
                  rw [hsp, je, shK_none hcond he]; rfl
                simp [p4, m6.r8]
                exact no hno _ _ _ _ _ _ _ _ m6 (gg5.trans g6)
            · have hno : shV f (n + 1) a sc nodes vars = none := by
                rw [hsp, je, shK_no fun q => hnok q.2]; rfl
              have lo5 := m5.lo
              simp [p4, m5.r8, lo5]
              exact no hno _ _ _ _ _ _ _ _ (m5.fail false) ((jg.trans (g4.trans g5)).trans (Gw.set (by omega) _))
          · have hno : shV f (n + 1) a sc nodes vars = none := by
              rw [hsp, je, shK_no fun q => hnf ⟨q.1.1, q.1.2.1, by have := q.1.2.2; simpa [mem] using this⟩]; rfl
            simp [p4, jm.r8, lo1]
            exact no hno _ _ _ _ _ _ _ _ (jm.fail false) (jg.trans (Gw.set (by omega) _))
      · rintro s1 h1 ⟨ts, nd, vs, nv1, vv1, je, jn, jv, jl, jsc, jm, jg, jk⟩ hs1 hg1
        rw [List.drop_of_length_le (by omega)] at je
        simp only [shK, Option.map_some, List.append_nil] at je
        rw [je] at hsp
        simp
        exact yes _ _ _ hsp _ _ _ jm jg
end
end Go.Proofs.Ytbnfcdjlbabddaa

/- The reference: its memory while it visits a function's nodes. -/
import Derived.Test.YtbnfcdjlbabddaaV2
set_option linter.unusedVariables false
set_option linter.unusedSimpArgs false
namespace Go.Proofs.Ytbnfcdjlbabddaa
open Go.Ev

/-- A visit's cells. -/
def wC (f : LFun) (nv vv ov : PV) (c : Int) (bad : Bool) : List PV := [PV.str f.name, PV.int .i64 f.params, PV.int .i64 f.result, sl f.vars, sl f.code, PV.int .i64 f.body, PV.bool f.extern] ++ [nv, vv, ov, .int .i64 c, .bool bad]

structure WM (f : LFun) (nd vr : Int → Int) (c : Int) (bad : Bool) (nodes : List Int) (nv vv ov : PV) (h : AH) : Prop where
  lo : h.lo = 0
  nx : 1 ≤ h.nx
  r0 : h.row 0 = some (wC f nv vv ov c bad)
  an : Acc h nv 1 (ils f.code.length nd) f.code.length
  av : Acc h vv 1 (ils f.vars.length vr) f.vars.length
  ao : Acc h ov 1 (nodes.map Enc.c).flatten nodes.length
  n0 : ¬ nm nv 0
  v0 : ¬ nm vv 0
  o0 : ¬ nm ov 0
  nv_vv : Apart nv vv
  nv_ov : Apart nv ov
  vv_ov : Apart vv ov

/-- A block that is none of the visit's. -/
def free3 (h : AH) (nv vv ov : PV) (i : Nat) : Prop := i ≠ 0 ∧ i < h.nx ∧ ¬ nm nv i ∧ ¬ nm vv i ∧ ¬ nm ov i
/-- What is none of the visit's stays. -/
structure WG (h : AH) (nv vv ov : PV) (h' : AH) (ov' : PV) : Prop where
  nx : h.nx ≤ h'.nx
  keep : ∀ i, free3 h nv vv ov i → h'.blk i = h.blk i ∧ free3 h' nv vv ov' i
theorem WG.refl (h : AH) (nv vv ov : PV) : WG h nv vv ov h ov := ⟨Nat.le_refl _, fun i q => ⟨rfl, q⟩⟩
theorem WG.trans {h h1 h2 : AH} {nv vv ov ov1 ov2 : PV} (a : WG h nv vv ov h1 ov1) (b : WG h1 nv vv ov1 h2 ov2) : WG h nv vv ov h2 ov2 :=
  ⟨Nat.le_trans a.nx b.nx, fun i q => by
    obtain ⟨e1, q1⟩ := a.keep i q
    obtain ⟨e2, q2⟩ := b.keep i q1
    exact ⟨e2.trans e1, q2⟩⟩
theorem acc_nm {h : AH} {v : PV} {z : Nat} {cs : List PV} {n i : Nat} (a : Acc h v z cs n) (hn : nm v i) : i < h.nx ∧ h.lo ≤ i := by
  obtain ⟨z', o, n', rfl⟩ := hn
  obtain ⟨_, ⟨q, _⟩ | ⟨j, q, _, hj, hl⟩⟩ := a
  · cases q
  · cases q; exact ⟨hj, hl⟩

section
variable {f : LFun} {nd vr : Int → Int} {c : Int} {bad : Bool} {nodes : List Int} {nv vv ov : PV} {h : AH}

theorem WM.push (m : WM f nd vr c bad nodes nv vv ov h) (cs : List PV) : WM f nd vr c bad nodes nv vv ov (h.push (.cells cs)) := by
  have hx := m.nx
  exact ⟨m.lo, Nat.le_succ_of_le hx, by rw [row_push, if_neg (by omega)]; exact m.r0, m.an.push _, m.av.push _, m.ao.push _, m.n0, m.v0, m.o0, m.nv_vv, m.nv_ov, m.vv_ov⟩
theorem WG.push (B : Blk) : WG h nv vv ov (h.push B) ov := ⟨Nat.le_succ _, fun i q => ⟨by rw [blk_push, if_neg (by have := q.2.1; omega)], q.1, Nat.lt_succ_of_lt q.2.1, q.2.2⟩⟩
theorem WM.free_push (m : WM f nd vr c bad nodes nv vv ov h) (B : Blk) : free3 (h.push B) nv vv ov h.nx :=
  ⟨by have := m.nx; omega, Nat.lt_succ_self _, fun q => by have := (acc_nm m.an q).1; omega, fun q => by have := (acc_nm m.av q).1; omega, fun q => by have := (acc_nm m.ao q).1; omega⟩
/-- The visit's own cells, written. -/
theorem WM.w0 (m : WM f nd vr c bad nodes nv vv ov h) (c' : Int) (bad' : Bool) : WM f nd vr c' bad' nodes nv vv ov (h.set 0 (.cells (wC f nv vv ov c' bad'))) :=
  ⟨m.lo, m.nx, by rw [row_set, if_pos rfl], m.an.set _ (nm_ne m.n0), m.av.set _ (nm_ne m.v0), m.ao.set _ (nm_ne m.o0), m.n0, m.v0, m.o0, m.nv_vv, m.nv_ov, m.vv_ov⟩
theorem WG.w0 (B : Blk) : WG h nv vv ov (h.set 0 B) ov := ⟨Nat.le_refl _, fun i q => ⟨by rw [blk_set, if_neg q.1], q⟩⟩
/-- A node's number, written. -/
theorem WM.setN (m : WM f nd vr c bad nodes nv vv ov h) {j : Nat} (e : nv = .rf 1 j 0 f.code.length) {a q : Int} (h0 : 0 ≤ a) :
    WM f (fun i => if i = a then q else nd i) vr c bad nodes nv vv ov (h.set j (.cells ((ils f.code.length nd).set a.toNat (.int .i64 q)))) ∧ WG h nv vv ov (h.set j (.cells ((ils f.code.length nd).set a.toNat (.int .i64 q)))) ov := by
  have hj : nm nv j := ⟨_, _, _, e⟩
  have j0 : ¬ 0 = j := fun q => m.n0 (q ▸ hj)
  obtain ⟨jl, jo⟩ := acc_nm m.an hj
  refine ⟨⟨m.lo, m.nx, by rw [row_set, if_neg j0]; exact m.r0, ⟨by simp, .inr ⟨j, e, by rw [row_set, if_pos rfl, ils_setI h0], jl, jo⟩⟩, m.av.set _ fun z o n q => m.nv_vv.clash hj ⟨_, _, _, q⟩, m.ao.set _ fun z o n q => m.nv_ov.clash hj ⟨_, _, _, q⟩, m.n0, m.v0, m.o0, m.nv_vv, m.nv_ov, m.vv_ov⟩, Nat.le_refl _, fun i q => ⟨?_, q⟩⟩
  rw [blk_set, if_neg fun z : i = j => q.2.2.1 (by rw [z]; exact hj)]
/-- A variable's number, written. -/
theorem WM.setV (m : WM f nd vr c bad nodes nv vv ov h) {j : Nat} (e : vv = .rf 1 j 0 f.vars.length) {a q : Int} (h0 : 0 ≤ a) :
    WM f nd (fun i => if i = a then q else vr i) c bad nodes nv vv ov (h.set j (.cells ((ils f.vars.length vr).set a.toNat (.int .i64 q)))) ∧ WG h nv vv ov (h.set j (.cells ((ils f.vars.length vr).set a.toNat (.int .i64 q)))) ov := by
  have hj : nm vv j := ⟨_, _, _, e⟩
  have j0 : ¬ 0 = j := fun q => m.v0 (q ▸ hj)
  obtain ⟨jl, jo⟩ := acc_nm m.av hj
  refine ⟨⟨m.lo, m.nx, by rw [row_set, if_neg j0]; exact m.r0, m.an.set _ fun z o n q => m.nv_vv.clash ⟨_, _, _, q⟩ hj, ⟨by simp, .inr ⟨j, e, by rw [row_set, if_pos rfl, ils_setI h0], jl, jo⟩⟩, m.ao.set _ fun z o n q => m.vv_ov.clash hj ⟨_, _, _, q⟩, m.n0, m.v0, m.o0, m.nv_vv, m.nv_ov, m.vv_ov⟩, Nat.le_refl _, fun i q => ⟨?_, q⟩⟩
  rw [blk_set, if_neg fun z : i = j => q.2.2.2.1 (by rw [z]; exact hj)]
/-- The order, grown. -/
theorem WM.order (m : WM f nd vr c bad nodes nv vv ov h) {h1 : AH} {w : PV} {l : List Int} (a : Acc h1 w 1 (l.map Enc.c).flatten l.length) (mv : Mv h ov h1 w) :
    WM f nd vr c bad l nv vv w (h1.set 0 (.cells (wC f nv vv w c bad))) ∧ WG h nv vv ov (h1.set 0 (.cells (wC f nv vv w c bad))) w := by
  have hx := m.nx
  have g := mv.grow
  have nw : ∀ i, nm w i → nm ov i ∨ h.nx ≤ i := by
    rintro i ⟨z, o, n, rfl⟩
    rcases mv.2 with q | q | ⟨z', i', o', n', q, hi'⟩
    · exact .inl ⟨z, o, n, q.symm⟩
    · cases q
    · cases q; exact .inr hi'
  have w0 : ¬ nm w 0 := fun q => by
    rcases nw 0 q with q | q
    · exact m.o0 q
    · omega
  refine ⟨⟨by show h1.lo = 0; rw [g.1]; exact m.lo, by show 1 ≤ h1.nx; omega, by rw [row_set, if_pos rfl], (m.an.mv mv m.nv_ov).set _ (nm_ne m.n0), (m.av.mv mv m.vv_ov).set _ (nm_ne m.v0), a.set _ (nm_ne w0), m.n0, m.v0, w0, m.nv_vv, m.nv_ov.mv mv m.an, m.vv_ov.mv mv m.av⟩, g.2, fun i q => ⟨?_, q.1, by have := q.2.1; show i < h1.nx; omega, q.2.2.1, q.2.2.2.1, fun z => ?_⟩⟩
  · rw [blk_set, if_neg q.1]
    exact mv.blk q.2.1 fun z o n e => q.2.2.2.2 ⟨z, o, n, e⟩
  · rcases nw i z with z | z
    · exact q.2.2.2.2 z
    · have := q.2.1; omega
/-- Another value moves. -/
theorem WM.mv (m : WM f nd vr c bad nodes nv vv ov h) {h1 : AH} {u w : PV} (hu : ∀ i, nm u i → free3 h nv vv ov i) {z : Nat} {cs : List PV} {n : Nat} (a : Acc h1 w z cs n) (mv : Mv h u h1 w) : WM f nd vr c bad nodes nv vv ov h1 ∧ ∀ i, nm w i → free3 h1 nv vv ov i := by
  have hx := m.nx
  have g := mv.grow
  have apart : ∀ {v : PV}, (∀ i, nm v i → ¬ nm u i) → Apart v u := fun hv => Apart.of fun i a b => hv i a b
  have an : Apart nv u := apart fun i a b => (hu i b).2.2.1 a
  have av : Apart vv u := apart fun i a b => (hu i b).2.2.2.1 a
  have ao : Apart ov u := apart fun i a b => (hu i b).2.2.2.2 a
  refine ⟨⟨by rw [g.1]; exact m.lo, by omega, ?_, m.an.mv mv an, m.av.mv mv av, m.ao.mv mv ao, m.n0, m.v0, m.o0, m.nv_vv, m.nv_ov, m.vv_ov⟩, ?_⟩
  · rw [mv.row (by omega) fun z o n e => (hu 0 ⟨z, o, n, e⟩).1 rfl]; exact m.r0
  · rintro i ⟨z, o, n, rfl⟩
    rcases mv.2 with q | q | ⟨z', i', o', n', q, hi'⟩
    · obtain ⟨q1, q2, q3⟩ := hu i ⟨z, o, n, q.symm⟩
      exact ⟨q1, by omega, q3⟩
    · cases q
    · cases q
      exact ⟨by omega, (acc_nm a ⟨_, _, _, rfl⟩).1, fun z => by have := (acc_nm m.an z).1; omega, fun z => by have := (acc_nm m.av z).1; omega, fun z => by have := (acc_nm m.ao z).1; omega⟩
theorem WG.mv {h0 : AH} {ov0 : PV} (g : WG h0 nv vv ov0 h ov) {h1 : AH} {u w : PV} (hu : ∀ i, nm u i → h0.nx ≤ i) (mv : Mv h u h1 w) : WG h0 nv vv ov0 h1 ov :=
  ⟨Nat.le_trans g.nx mv.grow.2, fun i q => by
    obtain ⟨e, q'⟩ := g.keep i q
    refine ⟨?_, q'.1, by have := q'.2.1; have := mv.grow.2; omega, q'.2.2⟩
    rw [← e]
    exact mv.blk q'.2.1 fun z o n e => by have := hu i ⟨z, o, n, e⟩; have := q.2.1; omega⟩
end

/-- A list of numbers of another's. -/
structure So (h : AH) (sv : PV) (l : List Int) (nv vv ov : PV) : Prop where
  acc : Acc h sv 1 (l.map Enc.c).flatten l.length
  free : ∀ i, nm sv i → free3 h nv vv ov i
theorem So.gw {h h' : AH} {sv nv vv ov ov' : PV} {l : List Int} (a : So h sv l nv vv ov) (g : WG h nv vv ov h' ov') (hl : h'.lo = h.lo) : So h' sv l nv vv ov' :=
  ⟨a.acc.of_nm g.nx hl fun i hi _ => (g.keep i (a.free i hi)).1, fun i hi => (g.keep i (a.free i hi)).2⟩
theorem row_gw {h h' : AH} {nv vv ov ov' : PV} {i : Nat} {cs : List PV} (g : WG h nv vv ov h' ov') (hi : free3 h nv vv ov i) (hr : h.row i = some cs) : free3 h' nv vv ov' i ∧ h'.row i = some cs := by
  obtain ⟨e, q⟩ := g.keep i hi
  refine ⟨q, ?_⟩
  simp only [AH.row, e]
  exact hr
end Go.Proofs.Ytbnfcdjlbabddaa

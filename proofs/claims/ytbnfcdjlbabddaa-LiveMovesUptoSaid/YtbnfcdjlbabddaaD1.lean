/- Live variables: the program's memory while it visits the nodes. -/
import Derived.Test.YtbnfcdjlbabddaaS2
set_option linter.unusedVariables false
set_option linter.unusedSimpArgs false
namespace Go.Proofs.Ytbnfcdjlbabddaa
open Go.Ev

/-- A map from numbers to lists of numbers. -/
def mpI (l : List (Int × List Int)) : Blk := .map (l.map fun p => (.int .i64 p.1, sl p.2))
section
variable {h : AH}
theorem findK_none {a : Int} : ∀ {l : List (Int × List Int)} {j : Nat}, (∀ p ∈ l, p.1 ≠ a) → findK (.int .i64 a) (l.map fun p => (.int .i64 p.1, sl p.2)) j = some none
  | [], j, _ => rfl
  | p :: l, j, h => by
    have h1 : (a == p.1) = false := by simpa using fun q => h p List.mem_cons_self q.symm
    simp only [List.map_cons, findK, cellEq, if_true, h1]
    exact findK_none fun q hq => h q (List.mem_cons_of_mem _ hq)
theorem findK_some {a : Int} {v : List Int} : ∀ {l : List (Int × List Int)} {j : Nat}, (l.map (·.1)).Nodup → (a, v) ∈ l → ∃ i, findK (.int .i64 a) (l.map fun p => (.int .i64 p.1, sl p.2)) j = some (some (i, sl v))
  | [], j, _, h => by cases h
  | p :: l, j, hn, h => by
    rw [List.map_cons, List.nodup_cons] at hn
    simp only [List.map_cons, findK, cellEq, if_true]
    rcases List.mem_cons.1 h with rfl | h
    · exact ⟨j, by simp⟩
    · have h1 : (a == p.1) = false := by
        have : a ∈ l.map (·.1) := List.mem_map.2 ⟨_, h, rfl⟩
        simpa using fun q : a = p.1 => hn.1 (by rw [← q]; exact this)
      rw [h1]
      exact findK_some hn.2 h
theorem evPut_mpI {l : List (Int × List Int)} {m : Nat} {a : Int} {v : List Int} (hb : h.blk m = some (mpI l)) (ha : ∀ p ∈ l, p.1 ≠ a) (hlo : h.lo ≤ m) : evPut h 0 (.mp m) (.int .i64 a) (sl v) = some (.undef, h.set m (mpI (l ++ [(a, v)]))) := by
  simp only [evPut, lowOk_mp, hlo, decide_true, if_true, evUpd, hb, mpI, Go.Ev.kindOk, findK_none ha, List.map_append, List.map_cons, List.map_nil]
theorem evLkp_mpI {l : List (Int × List Int)} {m : Nat} {a : Int} {v : List Int} (hb : h.blk m = some (mpI l)) (hn : (l.map (·.1)).Nodup) (ha : (a, v) ∈ l) : evLkp h 0 .emp false (.mp m) (.int .i64 a) = some (sl v) := by
  obtain ⟨i, e⟩ := findK_some (j := 0) hn ha
  simp only [evLkp, Go.Ev.kindOk, if_true, hb, mpI, e, Option.map_some, lkpFin]
  rfl
theorem evLkp_ok {l : List (Int × List Int)} {m : Nat} {a : Int} {v : List Int} (hb : h.blk m = some (mpI l)) (hn : (l.map (·.1)).Nodup) (ha : (a, v) ∈ l) : evLkp h 0 .emp true (.mp m) (.int .i64 a) = some (.tup [sl v, .bool true]) := by
  obtain ⟨i, e⟩ := findK_some (j := 0) hn ha
  simp only [evLkp, Go.Ev.kindOk, if_true, hb, mpI, e, Option.map_some, lkpFin]
  rfl
theorem evLkp_no {l : List (Int × List Int)} {m : Nat} {a : Int} (hb : h.blk m = some (mpI l)) (ha : ∀ p ∈ l, p.1 ≠ a) : evLkp h 0 .emp true (.mp m) (.int .i64 a) = some (.tup [.emp, .bool false]) := by
  simp only [evLkp, Go.Ev.kindOk, if_true, hb, mpI, findK_none ha, Option.map_some, lkpFin]
  rfl
end

structure LM (f : LFun) (ix : Nat) (pv : PV) (am fm : List (Int × List Int)) (ss : List (List Int)) (sv : PV) (h : AH) : Prop where
  lo : h.lo = 0
  ix0 : 4 ≤ ix
  ix1 : ix < h.nx
  b0 : h.blk 0 = some (mpI am)
  b1 : h.blk 1 = some (mpI fm)
  r2 : h.row 2 = some [.mp 0, .mp 1, sv]
  r3 : h.row 3 = some [.pt 2 0]
  rx : h.row ix = some [.fn 52 [] [.pi (Enc.c f), .pt ix 0, .pt 3 0]]
  sa : Acc h sv 1 (pv :: (ss.map Enc.c).flatten) (ss.length + 1)
  sn : ∀ i, nm sv i → 4 ≤ i ∧ i ≠ ix
  pa : Acc h pv 1 ((nums f.params.toNat).map Enc.c).flatten f.params.toNat
  pn : ∀ i, nm pv i → 4 ≤ i ∧ i ≠ ix
  ap : Apart pv sv
/-- What else is in the memory stays. -/
structure Gx (h : AH) (sv : PV) (h' : AH) (sv' : PV) : Prop where
  nx : h.nx ≤ h'.nx
  lo : h'.lo = h.lo
  keep : ∀ i, 3 ≤ i → i < h.nx → ¬ nm sv i → h'.blk i = h.blk i
  n0 : ∀ i, nm sv' i → nm sv i ∨ h.nx ≤ i
theorem Gx.refl (h : AH) (sv : PV) : Gx h sv h sv := ⟨Nat.le_refl _, rfl, fun _ _ _ _ => rfl, fun _ q => .inl q⟩
theorem Gx.trans {h h1 h2 : AH} {sv sv1 sv2 : PV} (a : Gx h sv h1 sv1) (b : Gx h1 sv1 h2 sv2) : Gx h sv h2 sv2 := by
  refine ⟨Nat.le_trans a.nx b.nx, b.lo.trans a.lo, fun i h3 hi e1 => ?_, fun i q => ?_⟩
  · rw [b.keep i h3 (by have := a.nx; omega) (fun q => ?_), a.keep i h3 hi e1]
    rcases a.n0 i q with q | q
    · exact e1 q
    · omega
  · rcases b.n0 i q with q | q
    · exact a.n0 i q
    · exact .inr (by have := a.nx; omega)
theorem Gx.push {h : AH} {sv : PV} (B : Blk) : Gx h sv (h.push B) sv := ⟨Nat.le_succ _, rfl, fun i _ hi _ => by rw [blk_push, if_neg (by omega)], fun _ q => .inl q⟩
theorem Gx.set {h : AH} {sv : PV} {j : Nat} (hj : j < 3) (B : Blk) : Gx h sv (h.set j B) sv := ⟨Nat.le_refl _, rfl, fun i h3 hi _ => by rw [blk_set, if_neg (by omega)], fun _ q => .inl q⟩
/-- An own slice of another's. -/
theorem Gx.acc {h h' : AH} {sv sv' v : PV} {z : Nat} {cs : List PV} {n : Nat} (g : Gx h sv h' sv') (a : Acc h v z cs n) (hn : ∀ i, nm v i → 3 ≤ i) (ap : Apart v sv) : Acc h' v z cs n :=
  a.of_blk g.nx g.lo fun z o n i e hi => by
    simp only [AH.row]
    rw [g.keep i (hn i ⟨z, o, n, e⟩) hi fun ⟨z', o', n', q⟩ => ap _ _ _ _ _ _ _ e q]
theorem Gx.apart {h h' : AH} {sv sv' v : PV} {z : Nat} {cs : List PV} {n : Nat} (g : Gx h sv h' sv') (a : Acc h v z cs n) (ap : Apart v sv) : Apart v sv' := by
  intro z o n i z' o' n' e e'
  rcases g.n0 i ⟨_, _, _, e'⟩ with q | q
  · obtain ⟨z2, o2, n2, q⟩ := q
    exact ap _ _ _ _ _ _ _ e q
  · have := acc_lt a ⟨_, _, _, e⟩; omega
theorem Gx.row {h h' : AH} {sv sv' : PV} {i : Nat} {cs : List PV} (g : Gx h sv h' sv') (h3 : 3 ≤ i) (hi : i < h.nx) (hn : ¬ nm sv i) (r : h.row i = some cs) : h'.row i = some cs := by
  simp only [AH.row, g.keep i h3 hi hn]; exact r

section
variable {f : LFun} {ix : Nat} {pv sv : PV} {am fm : List (Int × List Int)} {ss : List (List Int)} {h : AH}
theorem LM.push (m : LM f ix pv am fm ss sv h) (cs : List PV) : LM f ix pv am fm ss sv (h.push (.cells cs)) := by
  have h0 := m.ix0
  have h1 := m.ix1
  have e : ∀ i, i ≤ ix → (h.push (.cells cs)).row i = h.row i := fun i hi => by rw [row_push, if_neg (by omega)]
  have b : ∀ i, i ≤ ix → (h.push (.cells cs)).blk i = h.blk i := fun i hi => by rw [blk_push, if_neg (by omega)]
  exact ⟨m.lo, h0, Nat.lt_succ_of_lt h1, (b 0 (by omega)).trans m.b0, (b 1 (by omega)).trans m.b1, (e 2 (by omega)).trans m.r2, (e 3 (by omega)).trans m.r3, (e ix (by omega)).trans m.rx, m.sa.push _, m.sn, m.pa.push _, m.pn, m.ap⟩
theorem LM.at_ (m : LM f ix pv am fm ss sv h) (l : List (Int × List Int)) : LM f ix pv l fm ss sv (h.set 0 (mpI l)) := by
  have h0 := m.ix0
  have e : ∀ i, i ≠ 0 → (h.set 0 (mpI l)).blk i = h.blk i := fun i hi => by rw [blk_set, if_neg hi]
  have e2 : ∀ i, i ≠ 0 → (h.set 0 (mpI l)).row i = h.row i := fun i hi => by simp only [AH.row, e i hi]
  have q : ∀ {v : PV}, (∀ i, nm v i → 4 ≤ i ∧ i ≠ ix) → ∀ z o n, v ≠ .rf z 0 o n := fun hv z o n e => by have := hv 0 ⟨z, o, n, e⟩; omega
  exact ⟨m.lo, h0, m.ix1, by rw [blk_set, if_pos rfl], (e 1 (by omega)).trans m.b1, (e2 2 (by omega)).trans m.r2, (e2 3 (by omega)).trans m.r3, (e2 ix (by omega)).trans m.rx, m.sa.set _ (q m.sn), m.sn, m.pa.set _ (q m.pn), m.pn, m.ap⟩
theorem LM.af_ (m : LM f ix pv am fm ss sv h) (l : List (Int × List Int)) : LM f ix pv am l ss sv (h.set 1 (mpI l)) := by
  have h0 := m.ix0
  have e : ∀ i, i ≠ 1 → (h.set 1 (mpI l)).blk i = h.blk i := fun i hi => by rw [blk_set, if_neg hi]
  have e2 : ∀ i, i ≠ 1 → (h.set 1 (mpI l)).row i = h.row i := fun i hi => by simp only [AH.row, e i hi]
  have q : ∀ {v : PV}, (∀ i, nm v i → 4 ≤ i ∧ i ≠ ix) → ∀ z o n, v ≠ .rf z 1 o n := fun hv z o n e => by have := hv 1 ⟨z, o, n, e⟩; omega
  exact ⟨m.lo, h0, m.ix1, (e 0 (by omega)).trans m.b0, by rw [blk_set, if_pos rfl], (e2 2 (by omega)).trans m.r2, (e2 3 (by omega)).trans m.r3, (e2 ix (by omega)).trans m.rx, m.sa.set _ (q m.sn), m.sn, m.pa.set _ (q m.pn), m.pn, m.ap⟩
theorem LM.grow (m : LM f ix pv am fm ss sv h) {h1 : AH} {w : PV} {l : List (List Int)} (a : Acc h1 w 1 (pv :: (l.map Enc.c).flatten) (l.length + 1)) (mv : Mv h sv h1 w) : LM f ix pv am fm l w (h1.set 2 (.cells [.mp 0, .mp 1, w])) ∧ Gx h sv (h1.set 2 (.cells [.mp 0, .mp 1, w])) w := by
  have h0 := m.ix0
  have hx := m.ix1
  have g := mv.grow
  have nw : ∀ i, nm w i → nm sv i ∨ h.nx ≤ i := by
    rintro i ⟨z, o, n, rfl⟩
    rcases mv.2 with q | q | ⟨z', i', o', n', q, hi'⟩
    · exact .inl ⟨z, o, n, q.symm⟩
    · cases q
    · cases q; exact .inr hi'
  have n4 : ∀ i, nm w i → 4 ≤ i ∧ i ≠ ix := fun i q => by
    rcases nw i q with q | q
    · exact m.sn i q
    · omega
  have q : ∀ {v : PV}, (∀ i, nm v i → 4 ≤ i ∧ i ≠ ix) → ∀ z o n, v ≠ .rf z 2 o n := fun hv z o n e => by have := hv 2 ⟨z, o, n, e⟩; omega
  have b : ∀ i, i ≠ 2 → i ≤ ix → (i < 4 ∨ i = ix) → (h1.set 2 (.cells [.mp 0, .mp 1, w])).blk i = h.blk i := fun i hi2 hi hc => by
    rw [blk_set, if_neg hi2]
    exact mv.blk (by omega) fun z o n e => by have := m.sn i ⟨z, o, n, e⟩; omega
  have e : ∀ i, i ≠ 2 → i ≤ ix → (i < 4 ∨ i = ix) → (h1.set 2 (.cells [.mp 0, .mp 1, w])).row i = h.row i := fun i hi2 hi hc => by simp only [AH.row, b i hi2 hi hc]
  refine ⟨⟨by show h1.lo = 0; rw [g.1]; exact m.lo, h0, by show ix < h1.nx; omega, (b 0 (by omega) (by omega) (by omega)).trans m.b0, (b 1 (by omega) (by omega) (by omega)).trans m.b1, by rw [row_set, if_pos rfl], (e 3 (by omega) (by omega) (by omega)).trans m.r3, (e ix (by omega) (by omega) (by omega)).trans m.rx,
    a.set _ (q n4), n4, (m.pa.mv mv m.ap).set _ (q m.pn), m.pn, m.ap.mv mv m.pa⟩, g.2, g.1, fun i h3 hi e1 => ?_, nw⟩
  rw [blk_set, if_neg (by omega)]
  exact mv.blk hi fun z o n e => e1 ⟨z, o, n, e⟩
end

section
variable {T : Nat → Option Fun} {s : Fr} {h : AH} {d : Option Nat} {r : List COper} {κ : List KF} {Q : Fr → AH → Prop}
theorem sep_ok {ts : List Nat} {v : PV} (hs : ∀ t ∈ ts, ∀ i, blkOf v = some i → blkOf (s t) ≠ some i) : sepOk s ts v = true := by
  unfold sepOk
  split
  · rename_i i hi
    simp only [List.all_eq_true]
    intro t ht
    have := hs t ht i hi
    simpa using this
  · rfl
theorem WR_appS_eq {ts : List Nat} {z b : Nat} {x y : Opd} (hq : sepOk s ts (x.val s) = true) : WR T (⟨d, .appS ts z b x y, none⟩ :: r) κ s h Q = WR T (⟨d, .app z b x y, none⟩ :: r) κ s h Q := by
  rw [WR_appS, WR_app]
  unfold sepG
  simp [hq]
theorem acc_blk {v : PV} {z : Nat} {cs : List PV} {n i : Nat} (a : Acc h v z cs n) (e : blkOf v = some i) : nm v i := by
  obtain ⟨_, ⟨rfl, _⟩ | ⟨j, rfl, _⟩⟩ := a
  · cases e
  · cases e; exact ⟨_, _, _, rfl⟩
end
end Go.Proofs.Ytbnfcdjlbabddaa

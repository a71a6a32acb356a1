/- The shape of a function: the program's memory while it visits the nodes, and the small closures. -/
import Derived.Test.YtbnfcdjlbabddaaA3
set_option linter.unusedVariables false
set_option linter.unusedSimpArgs false
namespace Go.Proofs.Ytbnfcdjlbabddaa
open Go.Ev

/-- Truth values, number by number. -/
def bls (n : Nat) (p : Int → Bool) : List PV := (List.range n).map fun i => PV.bool (p (i : Nat))
@[simp] theorem bls_len {n : Nat} {p : Int → Bool} : (bls n p).length = n := by simp [bls]
theorem bls_get {n k : Nat} {p : Int → Bool} (hk : k < n) : (bls n p)[k]? = some (.bool (p (k : Nat))) := by simp [bls, hk]
theorem bls_getI {n : Nat} {k : Int} {p : Int → Bool} (h0 : 0 ≤ k) (hk : k.toNat < n) : (bls n p)[k.toNat]? = some (.bool (p k)) := by
  rw [bls_get hk, Int.toNat_of_nonneg h0]
theorem bls_set {n k : Nat} {p : Int → Bool} {b : Bool} : (bls n p).set k (.bool b) = bls n fun i => if i = (k : Nat) then b else p i := by
  apply List.ext_getElem?
  intro i
  rw [List.getElem?_set]
  by_cases hi : i < n
  · rw [bls_get hi]
    by_cases hk : k = i
    · subst hk; rw [if_pos rfl, if_pos (by simpa using hi), bls_get hi, if_pos rfl]
    · rw [if_neg hk, bls_get hi, if_neg (by omega)]
  · have e : ∀ q : Int → Bool, (bls n q)[i]? = none := fun q => List.getElem?_eq_none (by simp; omega)
    rw [e, e]
    split
    · rw [if_neg (by simp; omega)]
    · rfl
theorem bls_setI {n : Nat} {k : Int} {p : Int → Bool} {b : Bool} (h0 : 0 ≤ k) : (bls n p).set k.toNat (.bool b) = bls n fun i => if i = k then b else p i := by
  rw [bls_set, Int.toNat_of_nonneg h0]
theorem bls_congr {n : Nat} {p q : Int → Bool} (h : ∀ i : Int, 0 ≤ i → i < n → p i = q i) : bls n p = bls n q := by
  unfold bls
  apply List.map_congr_left
  intro i hi
  rw [h _ (by omega) (by have := List.mem_range.1 hi; omega)]

/-- The memory while the nodes are visited. -/
structure SM (f : LFun) (rch bd sc : Int → Bool) (nodes vars : List Int) (ok : Bool) (nv vv : PV) (h : AH) : Prop where
  lo : h.lo = 0
  nx : 13 ≤ h.nx
  r0 : h.row 0 = some [nv]
  a0 : Acc h nv 1 (nodes.map Enc.c).flatten nodes.length
  r1 : h.row 1 = some [vv]
  a1 : Acc h vv 1 (vars.map Enc.c).flatten vars.length
  ap : Apart nv vv
  n0 : ∀ i, nm nv i → 13 ≤ i
  n1 : ∀ i, nm vv i → 13 ≤ i
  r2 : h.row 2 = some (bls f.code.length rch)
  r3 : h.row 3 = some [.rf 1 2 0 f.code.length]
  r4 : h.row 4 = some (bls f.vars.length bd)
  r5 : h.row 5 = some [.rf 1 4 0 f.vars.length]
  r6 : h.row 6 = some (bls f.vars.length sc)
  r7 : h.row 7 = some [.rf 1 6 0 f.vars.length]
  r8 : h.row 8 = some [.bool ok]
  r9 : h.row 9 = some [.fn 57 [] [.pi (Enc.c f), .pt 3 0]]
  r10 : h.row 10 = some [.fn 58 [] [.pi (Enc.c f), .pt 5 0, .pt 7 0, .pt 1 0]]
  r11 : h.row 11 = some [.fn 59 [] [.pt 7 0]]
  r12 : h.row 12 = some [.fn 60 [] [.pi (Enc.c f), .pt 0 0, .pt 7 0, .pt 8 0, .pt 9 0, .pt 10 0, .pt 12 0, .pt 11 0]]

/-- What else is in the memory stays. -/
structure Gw (h : AH) (nv vv : PV) (h' : AH) (nv' vv' : PV) : Prop where
  nx : h.nx ≤ h'.nx
  keep : ∀ i, 13 ≤ i → i < h.nx → ¬ nm nv i → ¬ nm vv i → h'.blk i = h.blk i
  n0 : ∀ i, nm nv' i → nm nv i ∨ h.nx ≤ i
  n1 : ∀ i, nm vv' i → nm vv i ∨ h.nx ≤ i
theorem Gw.refl (h : AH) (nv vv : PV) : Gw h nv vv h nv vv := ⟨Nat.le_refl _, fun _ _ _ _ _ => rfl, fun _ q => .inl q, fun _ q => .inl q⟩
theorem Gw.trans {h h1 h2 : AH} {nv vv nv1 vv1 nv2 vv2 : PV} (a : Gw h nv vv h1 nv1 vv1) (b : Gw h1 nv1 vv1 h2 nv2 vv2) : Gw h nv vv h2 nv2 vv2 := by
  refine ⟨Nat.le_trans a.nx b.nx, fun i h13 hi e1 e2 => ?_, fun i q => ?_, fun i q => ?_⟩
  · rw [b.keep i h13 (by have := a.nx; omega) (fun q => ?_) (fun q => ?_), a.keep i h13 hi e1 e2]
    · rcases a.n0 i q with q | q
      · exact e1 q
      · omega
    · rcases a.n1 i q with q | q
      · exact e2 q
      · omega
  · rcases b.n0 i q with q | q
    · exact a.n0 i q
    · exact .inr (by have := a.nx; omega)
  · rcases b.n1 i q with q | q
    · exact a.n1 i q
    · exact .inr (by have := a.nx; omega)

section
variable {f : LFun} {rch bd sc : Int → Bool} {nodes vars : List Int} {ok : Bool} {nv vv : PV} {h : AH}

theorem nm_ne {v : PV} {j : Nat} (hn : ¬ nm v j) : ∀ z o n, v ≠ .rf z j o n := fun z o n e => hn ⟨z, o, n, e⟩

/-- Another block. -/
theorem SM.push (m : SM f rch bd sc nodes vars ok nv vv h) (cs : List PV) : SM f rch bd sc nodes vars ok nv vv (h.push (.cells cs)) := by
  have hx := m.nx
  have e : ∀ i, i < 13 → (h.push (.cells cs)).row i = h.row i := fun i hi => by rw [row_push, if_neg (by omega)]
  exact ⟨m.lo, Nat.le_succ_of_le hx, (e 0 (by omega)).trans m.r0, m.a0.push _, (e 1 (by omega)).trans m.r1, m.a1.push _, m.ap, m.n0, m.n1, (e 2 (by omega)).trans m.r2, (e 3 (by omega)).trans m.r3, (e 4 (by omega)).trans m.r4, (e 5 (by omega)).trans m.r5,
    (e 6 (by omega)).trans m.r6, (e 7 (by omega)).trans m.r7, (e 8 (by omega)).trans m.r8, (e 9 (by omega)).trans m.r9, (e 10 (by omega)).trans m.r10, (e 11 (by omega)).trans m.r11, (e 12 (by omega)).trans m.r12⟩
theorem Gw.push (cs : List PV) : Gw h nv vv (h.push (.cells cs)) nv vv := ⟨Nat.le_succ _, fun i _ hi _ _ => by rw [blk_push, if_neg (by omega)], fun _ q => .inl q, fun _ q => .inl q⟩
theorem Gw.set {j : Nat} (hj : j < 13) (B : Blk) : Gw h nv vv (h.set j B) nv vv := ⟨Nat.le_refl _, fun i h13 hi _ _ => by rw [blk_set, if_neg (by omega)], fun _ q => .inl q, fun _ q => .inl q⟩

/-- A node's mark. -/
theorem SM.reach (m : SM f rch bd sc nodes vars ok nv vv h) {k : Int} (h0 : 0 ≤ k) : SM f (fun i => if i = k then true else rch i) bd sc nodes vars ok nv vv (h.set 2 (.cells ((bls f.code.length rch).set k.toNat (.bool true)))) := by
  have e : ∀ i, i ≠ 2 → (h.set 2 (.cells ((bls f.code.length rch).set k.toNat (.bool true)))).row i = h.row i := fun i hi => by rw [row_set, if_neg hi]
  have q : ∀ {v : PV}, (∀ i, nm v i → 13 ≤ i) → ∀ z o n, v ≠ .rf z 2 o n := fun hv z o n e => by have := hv 2 ⟨z, o, n, e⟩; omega
  exact ⟨m.lo, m.nx, (e 0 (by omega)).trans m.r0, m.a0.set _ (q m.n0), (e 1 (by omega)).trans m.r1, m.a1.set _ (q m.n1), m.ap, m.n0, m.n1, by rw [row_set, if_pos rfl, bls_setI h0], (e 3 (by omega)).trans m.r3, (e 4 (by omega)).trans m.r4, (e 5 (by omega)).trans m.r5,
    (e 6 (by omega)).trans m.r6, (e 7 (by omega)).trans m.r7, (e 8 (by omega)).trans m.r8, (e 9 (by omega)).trans m.r9, (e 10 (by omega)).trans m.r10, (e 11 (by omega)).trans m.r11, (e 12 (by omega)).trans m.r12⟩
theorem SM.bind (m : SM f rch bd sc nodes vars ok nv vv h) {k : Int} {b : Bool} (h0 : 0 ≤ k) : SM f rch (fun i => if i = k then b else bd i) sc nodes vars ok nv vv (h.set 4 (.cells ((bls f.vars.length bd).set k.toNat (.bool b)))) := by
  have e : ∀ i, i ≠ 4 → (h.set 4 (.cells ((bls f.vars.length bd).set k.toNat (.bool b)))).row i = h.row i := fun i hi => by rw [row_set, if_neg hi]
  have q : ∀ {v : PV}, (∀ i, nm v i → 13 ≤ i) → ∀ z o n, v ≠ .rf z 4 o n := fun hv z o n e => by have := hv 4 ⟨z, o, n, e⟩; omega
  exact ⟨m.lo, m.nx, (e 0 (by omega)).trans m.r0, m.a0.set _ (q m.n0), (e 1 (by omega)).trans m.r1, m.a1.set _ (q m.n1), m.ap, m.n0, m.n1, (e 2 (by omega)).trans m.r2, (e 3 (by omega)).trans m.r3, by rw [row_set, if_pos rfl, bls_setI h0], (e 5 (by omega)).trans m.r5,
    (e 6 (by omega)).trans m.r6, (e 7 (by omega)).trans m.r7, (e 8 (by omega)).trans m.r8, (e 9 (by omega)).trans m.r9, (e 10 (by omega)).trans m.r10, (e 11 (by omega)).trans m.r11, (e 12 (by omega)).trans m.r12⟩
theorem SM.scope (m : SM f rch bd sc nodes vars ok nv vv h) {k : Int} {b : Bool} (h0 : 0 ≤ k) : SM f rch bd (fun i => if i = k then b else sc i) nodes vars ok nv vv (h.set 6 (.cells ((bls f.vars.length sc).set k.toNat (.bool b)))) := by
  have e : ∀ i, i ≠ 6 → (h.set 6 (.cells ((bls f.vars.length sc).set k.toNat (.bool b)))).row i = h.row i := fun i hi => by rw [row_set, if_neg hi]
  have q : ∀ {v : PV}, (∀ i, nm v i → 13 ≤ i) → ∀ z o n, v ≠ .rf z 6 o n := fun hv z o n e => by have := hv 6 ⟨z, o, n, e⟩; omega
  exact ⟨m.lo, m.nx, (e 0 (by omega)).trans m.r0, m.a0.set _ (q m.n0), (e 1 (by omega)).trans m.r1, m.a1.set _ (q m.n1), m.ap, m.n0, m.n1, (e 2 (by omega)).trans m.r2, (e 3 (by omega)).trans m.r3, (e 4 (by omega)).trans m.r4, (e 5 (by omega)).trans m.r5,
    by rw [row_set, if_pos rfl, bls_setI h0], (e 7 (by omega)).trans m.r7, (e 8 (by omega)).trans m.r8, (e 9 (by omega)).trans m.r9, (e 10 (by omega)).trans m.r10, (e 11 (by omega)).trans m.r11, (e 12 (by omega)).trans m.r12⟩
theorem SM.fail (m : SM f rch bd sc nodes vars ok nv vv h) (b : Bool) : SM f rch bd sc nodes vars b nv vv (h.set 8 (.cells [.bool b])) := by
  have e : ∀ i, i ≠ 8 → (h.set 8 (.cells [.bool b])).row i = h.row i := fun i hi => by rw [row_set, if_neg hi]
  have q : ∀ {v : PV}, (∀ i, nm v i → 13 ≤ i) → ∀ z o n, v ≠ .rf z 8 o n := fun hv z o n e => by have := hv 8 ⟨z, o, n, e⟩; omega
  exact ⟨m.lo, m.nx, (e 0 (by omega)).trans m.r0, m.a0.set _ (q m.n0), (e 1 (by omega)).trans m.r1, m.a1.set _ (q m.n1), m.ap, m.n0, m.n1, (e 2 (by omega)).trans m.r2, (e 3 (by omega)).trans m.r3, (e 4 (by omega)).trans m.r4, (e 5 (by omega)).trans m.r5,
    (e 6 (by omega)).trans m.r6, (e 7 (by omega)).trans m.r7, by rw [row_set, if_pos rfl], (e 9 (by omega)).trans m.r9, (e 10 (by omega)).trans m.r10, (e 11 (by omega)).trans m.r11, (e 12 (by omega)).trans m.r12⟩
/-- The nodes' list, or the variables', grown. -/
theorem SM.node (m : SM f rch bd sc nodes vars ok nv vv h) {h1 : AH} {w : PV} {l : List Int} (a : Acc h1 w 1 (l.map Enc.c).flatten l.length) (mv : Mv h nv h1 w) : SM f rch bd sc l vars ok w vv (h1.set 0 (.cells [w])) ∧ Gw h nv vv (h1.set 0 (.cells [w])) w vv := by
  have hx := m.nx
  have g := mv.grow
  have nw : ∀ i, nm w i → nm nv i ∨ h.nx ≤ i := by
    rintro i ⟨z, o, n, rfl⟩
    rcases mv.2 with q | q | ⟨z', i', o', n', q, hi'⟩
    · exact .inl ⟨z, o, n, q.symm⟩
    · cases q
    · cases q; exact .inr hi'
  have n13 : ∀ i, nm w i → 13 ≤ i := fun i q => by
    rcases nw i q with q | q
    · exact m.n0 i q
    · omega
  have q : ∀ {v : PV}, (∀ i, nm v i → 13 ≤ i) → ∀ z o n, v ≠ .rf z 0 o n := fun hv z o n e => by have := hv 0 ⟨z, o, n, e⟩; omega
  have e : ∀ i, 0 < i → i < 13 → (h1.set 0 (.cells [w])).row i = h.row i := fun i h0 hi => by
    rw [row_set, if_neg (by omega)]
    exact mv.row (by omega) fun z o n e => by have := m.n0 i ⟨z, o, n, e⟩; omega
  refine ⟨⟨by show h1.lo = 0; rw [g.1]; exact m.lo, by show 13 ≤ h1.nx; omega, by rw [row_set, if_pos rfl], a.set _ (q n13), (e 1 (by omega) (by omega)).trans m.r1, (m.a1.mv mv m.ap.symm).set _ (q m.n1), (m.ap.symm.mv mv m.a1).symm, n13, m.n1, (e 2 (by omega) (by omega)).trans m.r2, (e 3 (by omega) (by omega)).trans m.r3, (e 4 (by omega) (by omega)).trans m.r4, (e 5 (by omega) (by omega)).trans m.r5,
    (e 6 (by omega) (by omega)).trans m.r6, (e 7 (by omega) (by omega)).trans m.r7, (e 8 (by omega) (by omega)).trans m.r8, (e 9 (by omega) (by omega)).trans m.r9, (e 10 (by omega) (by omega)).trans m.r10, (e 11 (by omega) (by omega)).trans m.r11, (e 12 (by omega) (by omega)).trans m.r12⟩, g.2, fun i h13 hi e1 e2 => ?_, nw, fun _ q => .inl q⟩
  rw [blk_set, if_neg (by omega)]
  exact mv.blk hi fun z o n e => e1 ⟨z, o, n, e⟩
theorem SM.var (m : SM f rch bd sc nodes vars ok nv vv h) {h1 : AH} {w : PV} {l : List Int} (a : Acc h1 w 1 (l.map Enc.c).flatten l.length) (mv : Mv h vv h1 w) : SM f rch bd sc nodes l ok nv w (h1.set 1 (.cells [w])) ∧ Gw h nv vv (h1.set 1 (.cells [w])) nv w := by
  have hx := m.nx
  have g := mv.grow
  have nw : ∀ i, nm w i → nm vv i ∨ h.nx ≤ i := by
    rintro i ⟨z, o, n, rfl⟩
    rcases mv.2 with q | q | ⟨z', i', o', n', q, hi'⟩
    · exact .inl ⟨z, o, n, q.symm⟩
    · cases q
    · cases q; exact .inr hi'
  have n13 : ∀ i, nm w i → 13 ≤ i := fun i q => by
    rcases nw i q with q | q
    · exact m.n1 i q
    · omega
  have q : ∀ {v : PV}, (∀ i, nm v i → 13 ≤ i) → ∀ z o n, v ≠ .rf z 1 o n := fun hv z o n e => by have := hv 1 ⟨z, o, n, e⟩; omega
  have e : ∀ i, i ≠ 1 → i < 13 → (h1.set 1 (.cells [w])).row i = h.row i := fun i h0 hi => by
    rw [row_set, if_neg (by omega)]
    exact mv.row (by omega) fun z o n e => by have := m.n1 i ⟨z, o, n, e⟩; omega
  refine ⟨⟨by show h1.lo = 0; rw [g.1]; exact m.lo, by show 13 ≤ h1.nx; omega, (e 0 (by omega) (by omega)).trans m.r0, (m.a0.mv mv m.ap).set _ (q m.n0), by rw [row_set, if_pos rfl], a.set _ (q n13), m.ap.mv mv m.a0, m.n0, n13, (e 2 (by omega) (by omega)).trans m.r2, (e 3 (by omega) (by omega)).trans m.r3, (e 4 (by omega) (by omega)).trans m.r4, (e 5 (by omega) (by omega)).trans m.r5,
    (e 6 (by omega) (by omega)).trans m.r6, (e 7 (by omega) (by omega)).trans m.r7, (e 8 (by omega) (by omega)).trans m.r8, (e 9 (by omega) (by omega)).trans m.r9, (e 10 (by omega) (by omega)).trans m.r10, (e 11 (by omega) (by omega)).trans m.r11, (e 12 (by omega) (by omega)).trans m.r12⟩, g.2, fun i h13 hi e1 e2 => ?_, fun _ q => .inl q, nw⟩
  rw [blk_set, if_neg (by omega)]
  exact mv.blk hi fun z o n e => e2 ⟨z, o, n, e⟩
end
end Go.Proofs.Ytbnfcdjlbabddaa

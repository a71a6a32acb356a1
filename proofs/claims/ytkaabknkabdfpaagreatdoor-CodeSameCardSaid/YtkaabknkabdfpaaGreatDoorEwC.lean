/- Own slices that grow or are copies: the rules for clones, the values they give back. -/
import Derived.Test.YtkaabknkabdfpaaGreatDoorEwB
import Derived.Test.YtkaabknkabdfpaaGreatDoorLibB
set_option linter.unusedVariables false
set_option linter.unusedSimpArgs false
namespace Go.Ev

theorem room {n b : Nat} (h : n * b ≤ 17592186044416) : roomOk n b = true := by
  simp only [roomOk, decide_eq_true_eq]; exact h

section
variable {T : Nat → Option Fun} {s : Fr} {h : AH} {d : Option Nat} {r : List COper} {κ : List KF} {Q : Fr → AH → Prop}

theorem Keeps.refl (h : AH) (v : PV) : Keeps h h v := ⟨Nat.le_refl _, rfl, fun _ _ _ => rfl⟩

theorem opH_cloneO {x : PV} {z b n : Nat} {cs : List PV} (hx : src h z x = some (n, cs)) (hl : cs.length = n * z) (hz : 0 < z) (hlw : h.lo ≤ h.nx) (hr : roomOk n (b + 1) = true)
    (next : ∀ v h', Acc h' v z cs n → Mv h .emp h' v → WR T r κ (Fr.put s d v) h' Q) : opH T (primCloneO z b [x] h) d r κ s Q := by
  simp only [primCloneO, hx]
  cases n with
  | zero =>
    have hcs : cs = [] := by simpa using hl
    subst hcs
    exact next _ _ Acc.emp (Mv.refl _ _)
  | succ n =>
    simp only [hz, hr, and_self, if_true, opH_some]
    refine next _ _ ⟨hl, .inr ⟨h.nx, rfl, by simp, by simp, hlw⟩⟩ ⟨⟨Nat.le_succ _, rfl, fun i hi _ => ?_⟩, .inr (.inr ⟨_, _, _, _, rfl, Nat.le_refl _⟩)⟩
    rw [blk_push, if_neg (by omega)]

theorem Acc.snap_cells {v : PV} {z : Nat} {cs us : List PV} {n m : Nat} (a : Acc h v z cs n) (e : allO (snap h m) cs = some us) : snap h (m + 1) v = some (.sl n us) := by
  obtain ⟨hl, ⟨rfl, rfl⟩ | ⟨i, rfl, hr, _⟩⟩ := a
  · have hcs : cs = [] := by simpa using hl
    subst hcs
    cases e; rfl
  · simp only [snap, hr]
    rw [if_pos (by omega)]
    simp only [List.drop_zero, ← hl, List.take_length, e, Option.map_some]

theorem allO_flat {α : Type} [Enc α] {m : Nat} (hd : Enc.dep α ≤ m) (l : List α) : allO (snap h m) (l.map Enc.c).flatten = some (l.map Enc.c).flatten := by
  refine allO_imm (p := imm m) (fun v hv => snap_imm h _ v hv) _ (List.all_eq_true.2 fun v hv => ?_)
  obtain ⟨cs, h1, h2⟩ := List.mem_flatten.1 hv
  obtain ⟨x, _, rfl⟩ := List.mem_map.1 h1
  exact imm_mono _ _ _ hd (Enc.im x v h2)

/-- An own slice of plain data, as it is handed back. -/
theorem Acc.snap {α : Type} [Enc α] {v : PV} {z : Nat} {l : List α} {n m : Nat} (a : Acc h v z (l.map Enc.c).flatten n) (hn : n = l.length) (hd : Enc.dep α ≤ m) : snap h (m + 1) v = some (sl l) := by
  rw [a.snap_cells (allO_flat hd l), hn]; rfl

theorem Acc.fresh {v : PV} {z : Nat} {cs : List PV} {n m : Nat} (a : Acc h v z cs n) (e : cs.all (noImm h m) = true) : noImm h (m + 1) v = true := by
  obtain ⟨hl, ⟨rfl, rfl⟩ | ⟨i, rfl, hr, _⟩⟩ := a
  · rfl
  · simp only [Go.Ev.noImm, hr, List.drop_zero, ← hl, List.take_length, e]


theorem noImm_ints (l : List Int) (m : Nat) : ((l.map Enc.c).flatten).all (Go.Ev.noImm h (m + 1)) = true := by
  refine List.all_eq_true.2 fun v hv => ?_
  obtain ⟨cs, h1, h2⟩ := List.mem_flatten.1 hv
  obtain ⟨x, _, rfl⟩ := List.mem_map.1 h1
  cases List.mem_singleton.1 h2; rfl

theorem Acc.freshInts {v : PV} {l : List Int} {n m : Nat} (a : Acc h v 1 (l.map Enc.c).flatten n) : noImm h (m + 1 + 1) v = true := a.fresh (noImm_ints l m)

theorem Acc.keeps {h' : AH} {v u : PV} {z : Nat} {cs : List PV} {n : Nat} (a : Acc h v z cs n) (k : Keeps h h' u) (hne : ∀ z o n i z' o' n', v = .rf z i o n → u ≠ .rf z' i o' n') : Acc h' v z cs n :=
  a.of_blk k.1 k.2.1 fun z o n i e hi => by
    simp only [AH.row]
    rw [k.2.2 i hi fun z' o' n' e' => hne _ _ _ _ _ _ _ e e']
end

@[simp] theorem flatInts_append (l l' : List Int) : (l.map Enc.c).flatten ++ (l'.map Enc.c).flatten = ((l ++ l').map Enc.c).flatten := by simp
theorem flat_snoc {α : Type} [Enc α] (l : List α) (x : α) : (l.map Enc.c).flatten ++ Enc.c x = ((l ++ [x]).map Enc.c).flatten := by simp
theorem Acc.set {h : AH} {v : PV} {z : Nat} {cs : List PV} {n j : Nat} (a : Acc h v z cs n) (B : Blk) (hne : ∀ z o n, v ≠ .rf z j o n) : Acc (h.set j B) v z cs n :=
  a.of_blk (Nat.le_refl _) rfl fun z o n i e hi => by
    simp only [AH.row, blk_set]
    rw [if_neg fun q => hne z o n (by rw [← q]; exact e)]

/-- An own slice that another one's growth leaves alone. -/
theorem Acc.mv {h h' : AH} {v u u' : PV} {z : Nat} {cs : List PV} {n : Nat} (a : Acc h v z cs n) (k : Mv h u h' u') (hne : ∀ z o n i z' o' n', v = .rf z i o n → u ≠ .rf z' i o' n') : Acc h' v z cs n :=
  a.of_blk k.1.1 k.1.2.1 fun z o n i e hi => k.row hi fun z' o' n' => hne _ _ _ _ _ _ _ e

/-- Two own slices that do not share. -/
def Apart (v u : PV) : Prop := ∀ z o n i z' o' n', v = .rf z i o n → u ≠ .rf z' i o' n'
theorem Apart.emp (u : PV) : Apart .emp u := fun _ _ _ _ _ _ _ e => by cases e
theorem Apart.emp' (u : PV) : Apart u .emp := fun _ _ _ _ _ _ _ _ e => by cases e
theorem Apart.symm {v u : PV} (a : Apart v u) : Apart u v := fun z o n i z' o' n' e e' => a z' o' n' i z o n e' e
theorem Apart.mv {h h' : AH} {v u u' : PV} {z : Nat} {cs : List PV} {n : Nat} (a : Apart v u) (k : Mv h u h' u') (hv : Acc h v z cs n) : Apart v u' := by
  intro z o n i z' o' n' e e'
  obtain ⟨_, ⟨rfl, _⟩ | ⟨j, rfl, _, hj, _⟩⟩ := hv
  · cases e
  · cases e
    rcases k.2 with rfl | rfl | ⟨z2, i2, o2, n2, rfl, hi2⟩
    · exact a _ _ _ _ _ _ _ rfl e'
    · cases e'
    · cases e'; omega

section
variable {T : Nat → Option Fun} {s : Fr} {h : AH} {d : Option Nat} {r : List COper} {κ : List KF} {Q : Fr → AH → Prop}
/-- A call in the caller's heap: its code, then the rest. -/
theorem callK_shared {f : Nat} {vs : List PV} {c : CFun} (hf : T f = some (.code c)) (hp : c.pure = false) (hx : c.ext = false)
    (hw : WK T c.body [] (initFr vs) h (fun s' h1 => ∃ v, resOf c.res s' h1 = some v ∧ WR T r κ (Fr.put s d v) h1 Q)) : callK T f vs h d r κ s Q := by
  obtain ⟨n, ex, s', h1, e, q⟩ := hw
  cases ex with
  | exit i => exact q.elim
  | nrm =>
    obtain ⟨v, hv, q⟩ := q
    exact ⟨v, h1, CE_shared hf hp hx ⟨n, .nrm, s', h1, e, .inl rfl, rfl, hv⟩, q⟩
  | ret =>
    obtain ⟨v, hv, q⟩ := q
    exact ⟨v, h1, CE_shared hf hp hx ⟨n, .ret, s', h1, e, .inr rfl, rfl, hv⟩, q⟩
/-- A call behind a bar. -/
theorem callK_ext {f : Nat} {vs : List PV} {c : CFun} (hf : T f = some (.code c)) (hp : c.pure = false) (hx : c.ext = true)
    (hw : WK T c.body [] (initFr vs) h.bar (fun s' h1 => ∃ v, resOf c.res s' h1 = some v ∧ WR T r κ (Fr.put s d v) (h.unbar h1) Q)) : callK T f vs h d r κ s Q := by
  obtain ⟨n, ex, s', h1, e, q⟩ := hw
  cases ex with
  | exit i => exact q.elim
  | nrm =>
    obtain ⟨v, hv, q⟩ := q
    exact ⟨v, _, CE_ext hf hp hx ⟨n, .nrm, s', h1, e, .inl rfl, rfl, hv⟩, q⟩
  | ret =>
    obtain ⟨v, hv, q⟩ := q
    exact ⟨v, _, CE_ext hf hp hx ⟨n, .ret, s', h1, e, .inr rfl, rfl, hv⟩, q⟩
@[simp] theorem nx_bar : h.bar.nx = h.nx := Eq.trans rfl rfl
@[simp] theorem lo_bar : h.bar.lo = h.nx := Eq.trans rfl rfl
@[simp] theorem blk_bar {i : Nat} : h.bar.blk i = h.blk i := rfl
@[simp] theorem row_bar {i : Nat} : h.bar.row i = h.row i := rfl
@[simp] theorem unbar_bar : h.unbar h.bar = h := by cases h; rfl
@[simp] theorem nx_unbar {h1 : AH} : (h.unbar h1).nx = h1.nx := Eq.trans rfl rfl
@[simp] theorem lo_unbar {h1 : AH} : (h.unbar h1).lo = h.lo := Eq.trans rfl rfl
@[simp] theorem blk_unbar {h1 : AH} {i : Nat} : (h.unbar h1).blk i = h1.blk i := rfl
@[simp] theorem row_unbar {h1 : AH} {i : Nat} : (h.unbar h1).row i = h1.row i := rfl

/-- A map from numbers to bools that is a set. -/
def mpSet (l : List Int) : Blk := .map (l.map fun x => (.int .i64 x, .bool true))
@[simp] theorem row_set_mp {j i : Nat} {l : List Int} : (h.set j (mpSet l)).row i = if i = j then none else h.row i := row_setm
@[simp] theorem row_push_mp {i : Nat} {l : List Int} : (h.push (mpSet l)).row i = if i = h.nx then none else h.row i := row_pushm
theorem findK_set (a : Int) : ∀ (l : List Int) (j : Nat), (a ∈ l → ∃ i, findK (.int .i64 a) (l.map fun x => (.int .i64 x, .bool true)) j = some (some (i, .bool true))) ∧ (a ∉ l → findK (.int .i64 a) (l.map fun x => (.int .i64 x, .bool true)) j = some none)
  | [], j => ⟨fun h => (by cases h), fun _ => rfl⟩
  | x :: l, j => by
    have ih := findK_set a l (j + 1)
    simp only [List.map_cons, findK, cellEq, if_true]
    by_cases hx : a = x
    · subst hx
      refine ⟨fun _ => ⟨j, by simp⟩, fun h => absurd List.mem_cons_self h⟩
    · have : (a == x) = false := by simpa using hx
      simp only [this, List.mem_cons, hx, false_or]
      exact ih
theorem evLkp_set {l : List Int} {m : Nat} {a : Int} (hb : h.blk m = some (mpSet l)) : evLkp h 0 (.bool false) false (.mp m) (.int .i64 a) = some (.bool (decide (a ∈ l))) := by
  simp only [evLkp, kindOk, if_true, hb, mpSet]
  by_cases ha : a ∈ l
  · obtain ⟨i, e⟩ := (findK_set a l 0).1 ha
    simp [e, lkpFin, ha]
  · simp [(findK_set a l 0).2 ha, lkpFin, ha]
theorem evPut_set {l : List Int} {m : Nat} {a : Int} (hb : h.blk m = some (mpSet l)) (ha : a ∉ l) (hlo : h.lo ≤ m) : evPut h 0 (.mp m) (.int .i64 a) (.bool true) = some (.undef, h.set m (mpSet (l ++ [a]))) := by
  simp only [evPut, lowOk_mp, hlo, decide_true, if_true, evUpd, hb, mpSet, kindOk, (findK_set a l 0).2 ha, List.map_append, List.map_cons, List.map_nil]
end
end Go.Ev

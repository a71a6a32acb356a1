/- Calls behind a bar: what they leave alone. -/
import Derived.Test.YtbnfcdjlbabddaaEwC
import Derived.Test.YtbnfcdjlbabddaaEwL
import Derived.Test.YtbnfcdjlbabddaaLibB
set_option linter.unusedVariables false
set_option linter.unusedSimpArgs false
namespace Go.Ev
section
variable {P : Program} {pu : Nat → Bool} {T : Nat → Option Fun} {s : Fr} {h : AH} {d : Option Nat} {r : List COper} {κ : List KF} {Q : Fr → AH → Prop}

/-- What was there is still there. -/
def Kept (h h1 : AH) : Prop := h.nx ≤ h1.nx ∧ h1.lo = h.lo ∧ ∀ i, i < h.nx → h1.blk i = h.blk i
theorem Kept.refl (h : AH) : Kept h h := ⟨Nat.le_refl _, rfl, fun _ _ => rfl⟩
theorem Kept.push (h : AH) (B : Blk) : Kept h (h.push B) := ⟨Nat.le_succ _, rfl, fun i hi => by rw [blk_push, if_neg (by omega)]⟩
theorem Kept.trans {h h1 h2 : AH} (a : Kept h h1) (b : Kept h1 h2) : Kept h h2 :=
  ⟨Nat.le_trans a.1 b.1, b.2.1.trans a.2.1, fun i hi => (b.2.2 i (Nat.lt_of_lt_of_le hi a.1)).trans (a.2.2 i hi)⟩
theorem Kept.row {h h1 : AH} (a : Kept h h1) {i : Nat} (hi : i < h.nx) : h1.row i = h.row i := by simp only [AH.row, a.2.2 i hi]
theorem Kept.mv {h h1 : AH} (a : Kept h h1) (v : PV) : Mv h v h1 v := ⟨⟨a.1, a.2.1, fun i hi _ => a.2.2 i hi⟩, .inl rfl⟩
theorem Kept.acc {h h1 : AH} (a : Kept h h1) {v : PV} {z : Nat} {cs : List PV} {n : Nat} (c : Acc h v z cs n) : Acc h1 v z cs n :=
  c.of_blk a.1 a.2.1 fun _ _ _ i _ hi => a.row hi
/-- A fresh own slice that a call behind a bar gives. -/
def New (h : AH) (v : PV) : Prop := ∀ z i o n, v = .rf z i o n → h.nx ≤ i
theorem Acc.new {h : AH} {v : PV} {z : Nat} {cs : List PV} {n : Nat} (a : Acc h v z cs n) {h0 : AH} (e : h.lo = h0.nx) : New h0 v := by
  intro z i o n e2
  obtain ⟨_, ⟨rfl, _⟩ | ⟨j, rfl, _, _, hj⟩⟩ := a
  · cases e2
  · cases e2; omega
theorem Acc.unbar {h h1 : AH} {v : PV} {z : Nat} {cs : List PV} {n : Nat} (a : Acc h1 v z cs n) (e : h1.lo = h.nx) (hlw : h.lo ≤ h.nx) : Acc (h.unbar h1) v z cs n := by
  obtain ⟨hl, a⟩ := a
  refine ⟨hl, a.imp id ?_⟩
  rintro ⟨i, rfl, hr, hi, hlo⟩
  exact ⟨i, rfl, hr, hi, by simp; omega⟩
theorem New.apart {h : AH} {v u : PV} {z : Nat} {cs : List PV} {n : Nat} (a : New h v) (b : Acc h u z cs n) : Apart v u := by
  intro z o n i z' o' n' e e'
  have := a _ _ _ _ e
  obtain ⟨_, ⟨rfl, _⟩ | ⟨j, rfl, _, hj, _⟩⟩ := b
  · cases e'
  · cases e'; omega

theorem snap_src {v : PV} {z n m : Nat} {cs us : List PV} (hs : src h z v = some (n, cs)) (hz : ∀ z' i o n', v = .rf z' i o n' → z' = z) (e : allO (snap h m) cs = some us) : snap h (m + 1) v = some (.sl n us) := by
  cases v with
  | sl k xs =>
    simp only [src] at hs
    split at hs
    · cases hs; simp only [snap, e, Option.map_some]
    · cases hs
  | emp => simp only [src] at hs; cases hs; cases e; rfl
  | rf z' i o k =>
    have := hz _ _ _ _ rfl
    subst this
    simp only [src] at hs
    cases hr : h.row i with
    | none => simp [hr] at hs
    | some xs =>
      simp only [hr] at hs
      split at hs
      · rename_i hle
        cases hs
        simp only [snap, hr, hle, if_true, e, Option.map_some]
      · cases hs
  | _ => simp [src] at hs

theorem flat_ints (l : List Int) : (l.map Enc.c).flatten = l.map fun m => PV.int .i64 m := by
  induction l with
  | nil => rfl
  | cons a l ih => simp [ih]

theorem opH_sort {v : PV} {l : List Int} (ha : Acc h v 1 (l.map Enc.c).flatten l.length) (hl : l.length < 4611686018427387904)
    (next : ∀ h', Acc h' v 1 ((sortI l).map Enc.c).flatten l.length → Mv h v h' v → WR T r κ (Fr.put s d (.tup [])) h' Q) : opH T (primSort [v] h) d r κ s Q := by
  have hsl := sortI_length l
  obtain ⟨hlen, ⟨rfl, h0⟩ | ⟨i, rfl, hr, hi, hlo⟩⟩ := ha
  · have : l = [] := List.length_eq_zero_iff.1 h0
    subst this
    exact next _ ⟨rfl, .inl ⟨rfl, rfl⟩⟩ (Mv.refl _ _)
  · simp only [primSort]
    by_cases h0 : l.length = 0
    · have : l = [] := List.length_eq_zero_iff.1 h0
      subst this
      exact next _ ⟨rfl, .inr ⟨i, rfl, hr, hi, hlo⟩⟩ (Mv.refl _ _)
    · rw [if_neg h0, if_pos hlo]
      simp only [hr]
      have e : ints ((((l.map Enc.c).flatten.drop 0)).take l.length) = some l := by
        rw [List.drop_zero, flat_ints, List.take_of_length_le (by simp)]
        exact ints_map l
      simp only [e]
      rw [if_pos ⟨trivial, by rw [flat_ints]; simp, hl⟩, opH_some]
      have e2 : splice (l.map Enc.c).flatten 0 ((sortI l).map fun m => PV.int .i64 m) = ((sortI l).map Enc.c).flatten := by
        rw [flat_ints, flat_ints, splice]
        simp only [List.take_zero, List.nil_append, List.length_map, Nat.zero_add]
        rw [List.drop_of_length_le (by simp [hsl]), List.append_nil]
      rw [e2]
      refine next _ ⟨by rw [flat_ints]; simp [hsl], .inr ⟨i, rfl, by simp, hi, hlo⟩⟩ ⟨⟨Nat.le_refl _, rfl, fun j hj hne => ?_⟩, .inl rfl⟩
      rw [blk_set, if_neg fun q => hne 1 0 l.length (by rw [q])]

/-- A call behind a bar. -/
theorem callK_bar (ht : TOk P pu T) {f : Nat} {vs : List PV} {c : CFun} (hf : T f = some (.code c)) (hp : c.pure = false) (hx : c.ext = true) (hlw : h.lo ≤ h.nx)
    (hw : WK T c.body [] (initFr vs) h.bar (fun s' h1 => h1.lo = h.nx → Kept h (h.unbar h1) → ∃ v, resOf c.res s' h1 = some v ∧ WR T r κ (Fr.put s d v) (h.unbar h1) Q)) : callK T f vs h d r κ s Q := by
  refine callK_ext hf hp hx ?_
  obtain ⟨n, ex, s', h1, e, q⟩ := hw
  have k := evC_kl ht _ _ _ _ _ _ _ e
  have k2 : Kept h (h.unbar h1) := ⟨k.2.1, rfl, fun i hi => k.2.2 (by simp) i hi⟩
  refine ⟨n, ex, s', h1, e, ?_⟩
  cases ex with
  | exit i => exact q.elim
  | nrm => exact q k.1 k2
  | ret => exact q k.1 k2
end
end Go.Ev

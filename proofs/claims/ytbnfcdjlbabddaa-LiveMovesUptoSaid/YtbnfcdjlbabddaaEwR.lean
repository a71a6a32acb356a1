/- Values that stand for plain data, with the own blocks that they reach. -/
import Derived.Test.YtbnfcdjlbabddaaEwE
set_option linter.unusedVariables false
set_option linter.unusedSimpArgs false
namespace Go.Ev

def RepL (R : PV → PV → Prop) : List PV → List PV → Prop
  | [], [] => True
  | a :: x, b :: y => R a b ∧ RepL R x y
  | _, _ => False

/-- 'v' stands for the immutable 'u', to a depth; the own blocks that are reached lie in S. -/
def Rep (S : Nat → Prop) (h : AH) : Nat → PV → PV → Prop
  | 0, _, _ => False
  | d + 1, v, u => match u with
    | .sl n us => ∃ z cs, src h z v = some (n, cs) ∧ cs.length = n * z ∧ (∀ z' i o m, v = .rf z' i o m → z' = z ∧ S i ∧ i < h.nx) ∧ RepL (Rep S h d) cs us
    | .agg us => ∃ cs, v = .agg cs ∧ RepL (Rep S h d) cs us
    | u => v = u ∧ imm (d + 1) u = true

theorem RepL.length {R : PV → PV → Prop} : ∀ {x y : List PV}, RepL R x y → x.length = y.length
  | [], [], _ => rfl
  | a :: x, b :: y, h => by simp [RepL.length h.2]
  | [], _ :: _, h => h.elim
  | _ :: _, [], h => h.elim
theorem RepL.imp {R R' : PV → PV → Prop} (hr : ∀ a b, R a b → R' a b) : ∀ {x y : List PV}, RepL R x y → RepL R' x y
  | [], [], _ => trivial
  | a :: x, b :: y, h => ⟨hr _ _ h.1, RepL.imp hr h.2⟩
  | [], _ :: _, h => h.elim
  | _ :: _, [], h => h.elim
theorem RepL.append {R : PV → PV → Prop} : ∀ {x y x' y' : List PV}, RepL R x y → RepL R x' y' → RepL R (x ++ x') (y ++ y')
  | [], [], _, _, _, h' => h'
  | a :: x, b :: y, _, _, h, h' => ⟨h.1, RepL.append h.2 h'⟩
  | [], _ :: _, _, _, h, _ => h.elim
  | _ :: _, [], _, _, h, _ => h.elim
theorem RepL.get {R : PV → PV → Prop} : ∀ {x y : List PV}, RepL R x y → ∀ k (hk : k < x.length) (hk' : k < y.length), R x[k] y[k]
  | a :: x, b :: y, h, 0, _, _ => h.1
  | a :: x, b :: y, h, k + 1, hk, hk' => RepL.get h.2 k (by simpa using hk) (by simpa using hk')
  | [], [], _, k, hk, _ => absurd hk (by simp)
  | [], _ :: _, h, _, _, _ => h.elim
  | _ :: _, [], h, _, _, _ => h.elim
theorem RepL.drop {R : PV → PV → Prop} : ∀ {x y : List PV} (k : Nat), RepL R x y → RepL R (x.drop k) (y.drop k)
  | _, _, 0, h => h
  | [], [], k + 1, _ => trivial
  | a :: x, b :: y, k + 1, h => RepL.drop k h.2
  | [], _ :: _, _ + 1, h => h.elim
  | _ :: _, [], _ + 1, h => h.elim
theorem RepL.take {R : PV → PV → Prop} : ∀ {x y : List PV} (k : Nat), RepL R x y → RepL R (x.take k) (y.take k)
  | [], [], 0, _ => trivial
  | [], [], k + 1, _ => trivial
  | a :: x, b :: y, 0, _ => trivial
  | a :: x, b :: y, k + 1, h => ⟨h.1, RepL.take k h.2⟩
  | [], _ :: _, _, h => h.elim
  | _ :: _, [], _, h => h.elim
theorem RepL.mk {R : PV → PV → Prop} : ∀ {x y : List PV}, x.length = y.length → (∀ k (hk : k < x.length) (hk' : k < y.length), R x[k] y[k]) → RepL R x y
  | [], [], _, _ => trivial
  | a :: x, b :: y, hl, h => ⟨h 0 (by simp) (by simp), RepL.mk (by simpa using hl) fun k hk hk' => h (k + 1) (by simpa using hk) (by simpa using hk')⟩
  | [], _ :: _, hl, _ => by simp at hl
  | _ :: _, [], hl, _ => by simp at hl
theorem RepL.set {R : PV → PV → Prop} {a b : PV} (hab : R a b) : ∀ {x y : List PV} (k : Nat), RepL R x y → RepL R (x.set k a) (y.set k b)
  | [], [], _, _ => trivial
  | c :: x, e :: y, 0, h => ⟨hab, h.2⟩
  | c :: x, e :: y, k + 1, h => ⟨h.1, RepL.set hab k h.2⟩
  | [], _ :: _, _, h => h.elim
  | _ :: _, [], _, h => h.elim

section
variable {S S' : Nat → Prop} {h h' : AH}

theorem Rep.snap : ∀ {d : Nat} {v u : PV}, Rep S h d v u → snap h d v = some u
  | 0, _, _, e => e.elim
  | d + 1, v, u, e => by
    have key : ∀ {cs us : List PV}, RepL (Rep S h d) cs us → allO (Go.Ev.snap h d) cs = some us := by
      intro cs
      induction cs with
      | nil => intro us q; cases us with
        | nil => rfl
        | cons b y => exact q.elim
      | cons a x ih => intro us q; cases us with
        | nil => exact q.elim
        | cons b y => rw [allO_cons, Rep.snap q.1, ih q.2]; rfl
    cases u with
    | sl n us =>
      obtain ⟨z, cs, e1, e2, e3, e4⟩ := e
      exact snap_src e1 (fun z' i o m q => (e3 _ _ _ _ q).1) (key e4)
    | agg us =>
      obtain ⟨cs, rfl, e4⟩ := e
      simp only [Go.Ev.snap, key e4, Option.map_some]
    | _ => obtain ⟨rfl, e2⟩ := e; exact snap_imm h _ _ e2

theorem RepL.allO {d : Nat} : ∀ {cs us : List PV}, RepL (Rep S h d) cs us → allO (Go.Ev.snap h d) cs = some us
  | [], [], _ => rfl
  | a :: x, b :: y, q => by rw [allO_cons, Rep.snap q.1, RepL.allO q.2]; rfl
  | [], _ :: _, q => q.elim
  | _ :: _, [], q => q.elim

theorem src_agree {z : Nat} {v : PV} (hr : ∀ z' i o m, v = .rf z' i o m → h'.row i = h.row i) : src h' z v = src h z v := by
  cases v <;> first | rfl | simp only [src, hr _ _ _ _ rfl]

/-- What is reached is as it was. -/
theorem Rep.agree (hn : h.nx ≤ h'.nx) (hb : ∀ i, S i → i < h.nx → h'.blk i = h.blk i) : ∀ {d : Nat} {v u : PV}, Rep S h d v u → Rep S h' d v u
  | 0, _, _, e => e.elim
  | d + 1, v, u, e => by
    have ih : ∀ {cs us : List PV}, RepL (Rep S h d) cs us → RepL (Rep S h' d) cs us := fun q => q.imp fun _ _ => Rep.agree hn hb
    cases u with
    | sl n us =>
      obtain ⟨z, cs, e1, e2, e3, e4⟩ := e
      refine ⟨z, cs, ?_, e2, fun z' i o m q => ⟨(e3 _ _ _ _ q).1, (e3 _ _ _ _ q).2.1, Nat.lt_of_lt_of_le (e3 _ _ _ _ q).2.2 hn⟩, ih e4⟩
      exact (src_agree fun z' i o m q => by unfold AH.row; rw [hb i (e3 _ _ _ _ q).2.1 (e3 _ _ _ _ q).2.2]).trans e1
    | agg us =>
      obtain ⟨cs, rfl, e4⟩ := e
      exact ⟨cs, rfl, ih e4⟩
    | _ => exact e

theorem Rep.mono (hs : ∀ i, S i → S' i) : ∀ {d : Nat} {v u : PV}, Rep S h d v u → Rep S' h d v u
  | 0, _, _, e => e.elim
  | d + 1, v, u, e => by
    have ih : ∀ {cs us : List PV}, RepL (Rep S h d) cs us → RepL (Rep S' h d) cs us := fun q => q.imp fun _ _ => Rep.mono hs
    cases u with
    | sl n us =>
      obtain ⟨z, cs, e1, e2, e3, e4⟩ := e
      exact ⟨z, cs, e1, e2, fun z' i o m q => ⟨(e3 _ _ _ _ q).1, hs _ (e3 _ _ _ _ q).2.1, (e3 _ _ _ _ q).2.2⟩, ih e4⟩
    | agg us =>
      obtain ⟨cs, rfl, e4⟩ := e
      exact ⟨cs, rfl, ih e4⟩
    | _ => exact e

theorem Rep.below : ∀ {d : Nat} {v u : PV}, Rep S h d v u → Rep (fun i => S i ∧ i < h.nx) h d v u
  | 0, _, _, e => e.elim
  | d + 1, v, u, e => by
    have ih : ∀ {cs us : List PV}, RepL (Rep S h d) cs us → RepL (Rep (fun i => S i ∧ i < h.nx) h d) cs us := fun q => q.imp fun _ _ => Rep.below
    cases u with
    | sl n us =>
      obtain ⟨z, cs, e1, e2, e3, e4⟩ := e
      exact ⟨z, cs, e1, e2, fun z' i o m q => ⟨(e3 _ _ _ _ q).1, ⟨(e3 _ _ _ _ q).2.1, (e3 _ _ _ _ q).2.2⟩, (e3 _ _ _ _ q).2.2⟩, ih e4⟩
    | agg us =>
      obtain ⟨cs, rfl, e4⟩ := e
      exact ⟨cs, rfl, ih e4⟩
    | _ => exact e

theorem Rep.kept (k : Kept h h') {d : Nat} {v u : PV} (e : Rep S h d v u) : Rep S h' d v u := e.agree k.1 fun i _ hi => k.2.2 i hi

/-- Deeper is no less. -/
theorem Rep.deep : ∀ {d d' : Nat} {v u : PV}, d ≤ d' → Rep S h d v u → Rep S h d' v u
  | 0, _, _, _, _, e => e.elim
  | d + 1, 0, _, _, hd, _ => by omega
  | d + 1, d' + 1, v, u, hd, e => by
    have ih : ∀ {cs us : List PV}, RepL (Rep S h d) cs us → RepL (Rep S h d') cs us := fun q => q.imp fun _ _ => Rep.deep (by omega)
    cases u with
    | sl n us =>
      obtain ⟨z, cs, e1, e2, e3, e4⟩ := e
      exact ⟨z, cs, e1, e2, e3, ih e4⟩
    | agg us =>
      obtain ⟨cs, rfl, e4⟩ := e
      exact ⟨cs, rfl, ih e4⟩
    | _ => exact ⟨e.1, imm_mono _ _ _ hd e.2⟩

@[simp] theorem Rep_int {d : Nat} {v : PV} {k : IntKind} {n : Int} : Rep S h (d + 1) v (.int k n) = (v = .int k n) := by simp [Rep]
@[simp] theorem Rep_bool {d : Nat} {v : PV} {b : Bool} : Rep S h (d + 1) v (.bool b) = (v = .bool b) := by simp [Rep]
@[simp] theorem Rep_str {d : Nat} {v : PV} {b : ByteArray} : Rep S h (d + 1) v (.str b) = (v = .str b) := by simp [Rep]
@[simp] theorem RepL_nil {R : PV → PV → Prop} {x : List PV} : RepL R x [] = (x = []) := by cases x <;> simp [RepL]
theorem RepL_cons {R : PV → PV → Prop} {x y : List PV} {b : PV} : RepL R x (b :: y) ↔ ∃ a x', x = a :: x' ∧ R a b ∧ RepL R x' y := by
  cases x with
  | nil => simp [RepL]
  | cons a x => exact ⟨fun q => ⟨a, x, rfl, q⟩, fun ⟨_, _, e, q⟩ => by cases e; exact q⟩

/-- Plain data stands for itself. -/
theorem Rep.data {α : Type} [Enc α] {d : Nat} (hd : Enc.dep α ≤ d) (hc : ∀ (x : α) (v : PV), v ∈ Enc.c x → Rep S h d v v) (l : List α) : Rep S h (d + 1) (sl l) (sl l) := by
  refine ⟨Enc.z α, (l.map Enc.c).flatten, src_sl rfl, flat_len' l, fun _ _ _ _ q => (by cases q), RepL.mk rfl fun k hk _ => ?_⟩
  obtain ⟨cs, h1, h2⟩ := List.mem_flatten.1 (List.getElem_mem hk)
  obtain ⟨x, _, rfl⟩ := List.mem_map.1 h1
  exact hc x _ h2

/-- Immutable slices whose length fits their cells, to a depth: what plain data consists of. -/
def good : Nat → PV → Prop
  | 0, _ => False
  | d + 1, v => match v with
    | .sl n cs => (∃ z, cs.length = n * z) ∧ ∀ c ∈ cs, good d c
    | .agg cs => ∀ c ∈ cs, good d c
    | v => imm (d + 1) v = true
theorem good.rep : ∀ {d : Nat} {v : PV}, good d v → Rep S h d v v
  | 0, _, e => e.elim
  | d + 1, v, e => by
    have ih : ∀ {cs : List PV}, (∀ c ∈ cs, good d c) → RepL (Rep S h d) cs cs := fun q => RepL.mk rfl fun k hk _ => good.rep (q _ (List.getElem_mem hk))
    cases v with
    | sl n us =>
      obtain ⟨⟨z, e1⟩, e2⟩ := e
      exact ⟨z, us, src_psl e1, e1, fun _ _ _ _ q => (by cases q), ih e2⟩
    | agg us => exact ⟨us, rfl, ih e⟩
    | _ => exact ⟨rfl, e⟩
end

section
variable {T : Nat → Option Fun} {S : Nat → Prop} {h : AH}
/-- The immutable copy of flat plain data. -/
theorem primCloneI_eq {α : Type} [Enc α] {v : PV} {l : List α} {z b : Nat} (hs : snap h snapDepth v = some (sl l)) (hz : z = Enc.z α) (hf : ∀ x : α, (Enc.c x).all flat = true) (hr : roomOk l.length (b + 1) = true) : primCloneI z b [v] h = some (sl l, h) := by
  subst hz
  simp only [primCloneI, hs]
  cases l with
  | nil => simp only [sl, List.map_nil, List.flatten_nil, List.length_nil]
  | cons a l =>
    have e1 : ((a :: l).map Enc.c).flatten.length = (l.length + 1) * Enc.z α := flat_len' _
    have e2 : ((a :: l).map Enc.c).flatten.all flat = true := by
      refine List.all_eq_true.2 fun v hv => ?_
      obtain ⟨cs, h1, h2⟩ := List.mem_flatten.1 hv
      obtain ⟨x, _, rfl⟩ := List.mem_map.1 h1
      exact List.all_eq_true.1 (hf x) v h2
    have hr' : roomOk (l.length + 1) (b + 1) = true := hr
    simp only [sl, List.length_cons, e1, e2, hr', Enc.pos, and_self, if_true]
theorem flat_int (x : Int) : (Enc.c x).all flat = true := rfl
theorem flat_str (x : ByteArray) : (Enc.c x).all flat = true := rfl

/-- Reading a slice that stands for plain data. -/
theorem Rep.slice {α : Type} [Enc α] {d : Nat} {v : PV} {l : List α} (r : Rep S h (d + 1) v (sl l)) :
    evLen h 1 v = some (.int .i64 l.length) ∧ (0 < l.length → ∃ cs, src h (Enc.z α) v = some (l.length, cs) ∧ cs.length = l.length * Enc.z α ∧ RepL (Rep S h d) cs (l.map Enc.c).flatten) := by
  obtain ⟨z, cs, e1, e2, e3, e4⟩ := (r : ∃ z cs, src h z v = some (l.length, cs) ∧ cs.length = l.length * z ∧ (∀ z' i o m, v = .rf z' i o m → z' = z ∧ S i ∧ i < h.nx) ∧ RepL (Rep S h d) cs (l.map Enc.c).flatten)
  refine ⟨?_, fun hpos => ?_⟩
  · cases v with
    | sl n us => simp only [src] at e1; split at e1 <;> cases e1; rfl
    | emp =>
      simp only [src, Option.some.injEq, Prod.mk.injEq] at e1
      rw [← e1.1]; rfl
    | rf z' i o n =>
      simp only [src] at e1
      split at e1
      · split at e1
        · cases e1; rfl
        · cases e1
      · cases e1
    | _ => simp [src] at e1
  · have h1 := e4.length
    rw [flat_len', e2] at h1
    have hz : z = Enc.z α := Nat.eq_of_mul_eq_mul_left hpos h1
    subst hz
    exact ⟨cs, e1, e2, e4⟩

theorem flat_chunk {α : Type} [Enc α] (l : List α) (k : Nat) (hk : k < l.length) : ((l.map Enc.c).flatten.drop (k * Enc.z α)).take (Enc.z α) = Enc.c l[k] := by
  rw [flat_drop, List.drop_eq_getElem_cons hk, List.map_cons, List.flatten_cons, List.take_left' (Enc.len _)]

/-- One element. -/
theorem Rep.elem {α : Type} [Enc α] {d : Nat} {v : PV} {l : List α} (r : Rep S h (d + 1) v (sl l)) {k : Nat} (hk : k < l.length) :
    ∃ p cs, evIdx (Enc.z α) v (k : Int) = some p ∧ rds h p (Enc.z α) = some cs ∧ RepL (Rep S h d) cs (Enc.c l[k]) := by
  obtain ⟨cs, e1, e2, e4⟩ := r.slice.2 (by omega)
  have hle : k * Enc.z α + Enc.z α ≤ l.length * Enc.z α := by
    have : (k + 1) * Enc.z α ≤ l.length * Enc.z α := Nat.mul_le_mul_right _ hk
    rw [Nat.succ_mul] at this
    exact this
  have e5 := RepL.take (Enc.z α) (RepL.drop (k * Enc.z α) e4)
  rw [flat_chunk l k hk] at e5
  cases v with
  | sl n us =>
    simp only [src] at e1
    split at e1
    · rename_i hlen
      cases e1
      refine ⟨.pi (cs.drop (((k : Nat) : Int).toNat * Enc.z α)), _, ?_, ?_, e5⟩
      · simp only [evIdx]
        rw [if_pos ⟨by omega, by omega, hlen, Enc.pos⟩]
      · simp only [Int.toNat_natCast, rds]
        rw [if_pos (by rw [List.length_drop, hlen]; omega)]
    · cases e1
  | emp =>
    simp only [src, Option.some.injEq, Prod.mk.injEq] at e1
    omega
  | rf z' i o n =>
    have e1' := e1
    simp only [src] at e1
    cases hr : h.row i with
    | none => simp [hr] at e1
    | some xs =>
      simp only [hr] at e1
      split at e1
      · rename_i hlen
        cases e1
        obtain ⟨z2, cs2, f1, f2, f3, f4⟩ := (r : ∃ z cs, src h z (.rf z' i o l.length) = some (l.length, cs) ∧ cs.length = l.length * z ∧ (∀ z2 i2 o2 m, PV.rf z' i o l.length = .rf z2 i2 o2 m → z2 = z ∧ S i2 ∧ i2 < h.nx) ∧ RepL (Rep S h d) cs (l.map Enc.c).flatten)
        have hz' : z' = Enc.z α := by
          rw [(f3 _ _ _ _ rfl).1]
          have h1 := f4.length
          rw [flat_len', f2] at h1
          exact Nat.eq_of_mul_eq_mul_left (by omega) h1
        subst hz'
        refine ⟨.pt i (o + k * Enc.z α), _, evIdx_rf hk, ?_, e5⟩
        simp only [rds, hr]
        rw [if_pos (by omega)]
        congr 1
        rw [List.drop_take, List.take_take, List.drop_drop, Nat.min_eq_left (by rw [← Nat.sub_mul]; exact Nat.le_mul_of_pos_left _ (by omega))]
      · cases e1
  | _ => simp [src] at e1
end

/-- Everything that was there is as it was; the bar may differ. -/
def Blw (h h' : AH) : Prop := h.nx ≤ h'.nx ∧ ∀ i, i < h.nx → h'.blk i = h.blk i
theorem Blw.refl (h : AH) : Blw h h := ⟨Nat.le_refl _, fun _ _ => rfl⟩
theorem Blw.bar (h : AH) : Blw h h.bar := ⟨Nat.le_refl _, fun _ _ => rfl⟩
theorem Blw.push {h h' : AH} (b : Blw h h') (B : Blk) : Blw h (h'.push B) := ⟨Nat.le_succ_of_le b.1, fun i hi => by
  rw [blk_push, if_neg (by have := b.1; omega)]; exact b.2 i hi⟩
theorem Blw.set {h h' : AH} (b : Blw h h') {j : Nat} (hj : h.nx ≤ j) (B : Blk) : Blw h (h'.set j B) := ⟨b.1, fun i hi => by
  rw [blk_set, if_neg (by omega)]; exact b.2 i hi⟩
theorem Blw.trans {h h' h'' : AH} (a : Blw h h') (b : Blw h' h'') : Blw h h'' := ⟨Nat.le_trans a.1 b.1, fun i hi => (b.2 i (Nat.lt_of_lt_of_le hi a.1)).trans (a.2 i hi)⟩
theorem Blw.mv {h h' h'' : AH} {v v' : PV} (a : Blw h h') (m : Mv h' v h'' v') (hv : ∀ z i o n, v = .rf z i o n → h.nx ≤ i) : Blw h h'' :=
  ⟨Nat.le_trans a.1 m.1.1, fun i hi => (m.blk (Nat.lt_of_lt_of_le hi a.1) fun z o n e => by have := hv _ _ _ _ e; omega).trans (a.2 i hi)⟩
theorem Kept.blw {h h' : AH} (k : Kept h h') : Blw h h' := ⟨k.1, k.2.2⟩
theorem Blw.row {h h' : AH} (b : Blw h h') {i : Nat} (hi : i < h.nx) : h'.row i = h.row i := by simp only [AH.row, b.2 i hi]
section
variable {S : Nat → Prop} {h h' : AH}
theorem Rep.blw (b : Blw h h') {d : Nat} {v u : PV} (e : Rep S h d v u) : Rep S h' d v u := e.agree b.1 fun i _ hi => b.2 i hi

theorem Rep_ints {d : Nat} {cs : List PV} {l : List Int} (e : RepL (Rep S h (d + 1)) cs (l.map Enc.c).flatten) : cs = (l.map Enc.c).flatten := by
  induction l generalizing cs with
  | nil => simpa using e
  | cons a l ih =>
    simp only [List.map_cons, List.flatten_cons, c_int, List.cons_append, List.nil_append, RepL_cons] at e ⊢
    obtain ⟨x, y, rfl, e1, e2⟩ := e
    rw [Rep_int] at e1
    rw [e1, ih e2]

/-- A slice of numbers. -/
theorem Rep.ints {d : Nat} {v : PV} {l : List Int} (r : Rep S h (d + 1 + 1) v (sl l)) : src h 1 v = some (l.length, (l.map Enc.c).flatten) := by
  by_cases hl : 0 < l.length
  · obtain ⟨cs, e1, e2, e3⟩ := r.slice.2 hl
    rw [← Rep_ints e3]
    exact e1
  · have hn : l = [] := List.length_eq_zero_iff.1 (by omega)
    subst hn
    obtain ⟨z, cs, e1, e2, e3, e4⟩ := (r : ∃ z cs, src h z v = some (0, cs) ∧ cs.length = 0 * z ∧ (∀ z' i o m, v = .rf z' i o m → z' = z ∧ S i ∧ i < h.nx) ∧ RepL (Rep S h (d + 1)) cs [])
    cases v with
    | sl n us =>
      simp only [src] at e1
      split at e1
      · simp only [Option.some.injEq, Prod.mk.injEq] at e1
        obtain ⟨rfl, rfl⟩ := e1
        have : us = [] := by simpa using e2
        subst this
        rfl
      · cases e1
    | emp => rfl
    | rf z' i o n =>
      simp only [src] at e1 ⊢
      cases hr : h.row i with
      | none => simp [hr] at e1
      | some xs =>
        simp only [hr] at e1 ⊢
        split at e1
        · rename_i hle
          simp only [Option.some.injEq, Prod.mk.injEq] at e1
          obtain ⟨rfl, rfl⟩ := e1
          simp at hle
          simp [hle]
        · cases e1
    | _ => simp [src] at e1
end

section
variable {S : Nat → Prop} {h h' : AH}
/-- The cells of a slice that stands for plain data. -/
theorem Rep.src {α : Type} [Enc α] {d : Nat} {v : PV} {l : List α} (r : Rep S h (d + 1) v (sl l)) :
    ∃ cs, Go.Ev.src h (Enc.z α) v = some (l.length, cs) ∧ cs.length = l.length * Enc.z α ∧ RepL (Rep S h d) cs (l.map Enc.c).flatten := by
  by_cases hl : 0 < l.length
  · exact r.slice.2 hl
  · have hn : l = [] := List.length_eq_zero_iff.1 (by omega)
    subst hn
    obtain ⟨z, cs, e1, e2, e3, e4⟩ := (r : ∃ z cs, Go.Ev.src h z v = some (0, cs) ∧ cs.length = 0 * z ∧ (∀ z' i o m, v = .rf z' i o m → z' = z ∧ S i ∧ i < h.nx) ∧ RepL (Rep S h d) cs [])
    refine ⟨[], ?_, by simp, trivial⟩
    cases v with
    | sl n us =>
      simp only [Go.Ev.src] at e1
      split at e1
      · simp only [Option.some.injEq, Prod.mk.injEq] at e1
        obtain ⟨rfl, rfl⟩ := e1
        have : us = [] := by simpa using e2
        subst this
        simp [Go.Ev.src]
      · cases e1
    | emp => rfl
    | rf z' i o n =>
      simp only [Go.Ev.src] at e1 ⊢
      cases hr : h.row i with
      | none => simp [hr] at e1
      | some xs =>
        simp only [hr] at e1 ⊢
        split at e1
        · rename_i hle
          simp only [Option.some.injEq, Prod.mk.injEq] at e1
          obtain ⟨rfl, rfl⟩ := e1
          simp at hle
          simp [hle]
        · cases e1
    | _ => simp [Go.Ev.src] at e1

theorem Rep.src_blw {d n : Nat} {v : PV} {us : List PV} (r : Rep S h (d + 1) v (.sl n us)) (b : Blw h h') (z : Nat) : Go.Ev.src h' z v = Go.Ev.src h z v := by
  obtain ⟨z0, cs, e1, e2, e3, e4⟩ := r
  exact src_agree fun z' i o m q => b.row (e3 _ _ _ _ q).2.2

/-- One element's cells among all. -/
theorem RepL.chunk {α : Type} [Enc α] {R : PV → PV → Prop} {cs : List PV} {l : List α} (r : RepL R cs (l.map Enc.c).flatten) {k : Nat} (hk : k < l.length) :
    ∃ ch, RepL R ch (Enc.c l[k]) ∧ cs.drop (k * Enc.z α) = ch ++ cs.drop ((k + 1) * Enc.z α) ∧ ch.length = Enc.z α := by
  have e5 := RepL.take (Enc.z α) (RepL.drop (k * Enc.z α) r)
  rw [flat_chunk l k hk] at e5
  refine ⟨_, e5, ?_, by rw [e5.length, Enc.len]⟩
  rw [Nat.succ_mul, ← List.drop_drop, List.take_append_drop]
end
theorem flat_take_succ {α : Type} [Enc α] (l : List α) (k : Nat) (hk : k < l.length) : ((l.take (k + 1)).map Enc.c).flatten = ((l.take k).map Enc.c).flatten ++ Enc.c l[k] := by
  rw [take_succ' hk, List.map_append, List.flatten_append]
  simp only [List.map_cons, List.map_nil, List.flatten_cons, List.flatten_nil, List.append_nil]
theorem flat_take_len {α : Type} [Enc α] (l : List α) (k : Nat) (hk : k ≤ l.length) : ((l.take k).map Enc.c).flatten.length = k * Enc.z α := by
  rw [flat_len', List.length_take, Nat.min_eq_left hk]
section
variable {h : AH} {S : Nat → Prop}
/-- The block that a value names. -/
def nm (v : PV) (i : Nat) : Prop := ∃ z o n, v = .rf z i o n

/-- An own slice of plain cells stands for its data. -/
theorem Acc.rep {α : Type} [Enc α] {d : Nat} {v : PV} {l : List α} {n : Nat} (a : Acc h v (Enc.z α) (l.map Enc.c).flatten n) (hn : n = l.length) (hS : ∀ i, nm v i → S i) (hc : ∀ (x : α) (v : PV), v ∈ Enc.c x → Rep S h d v v) : Rep S h (d + 1) v (sl l) := by
  subst hn
  refine ⟨Enc.z α, (l.map Enc.c).flatten, a.src, flat_len' l, fun z' i o m e => ?_, RepL.mk rfl fun k hk _ => ?_⟩
  · obtain ⟨_, ⟨rfl, _⟩ | ⟨j, rfl, _, hj, _⟩⟩ := a
    · cases e
    · cases e; exact ⟨rfl, hS _ ⟨_, _, _, rfl⟩, hj⟩
  · obtain ⟨cs, h1, h2⟩ := List.mem_flatten.1 (List.getElem_mem hk)
    obtain ⟨x, _, rfl⟩ := List.mem_map.1 h1
    exact hc x _ h2

end
theorem Acc.names {h : AH} {v : PV} {z : Nat} {cs : List PV} {n i : Nat} (a : Acc h v z cs n) (hn : nm v i) : i < h.nx ∧ h.lo ≤ i := by
  obtain ⟨z', o, m, rfl⟩ := hn
  obtain ⟨_, ⟨q, _⟩ | ⟨j, q, _, hj, hl⟩⟩ := a
  · cases q
  · cases q; exact ⟨hj, hl⟩
theorem Apart.clash {v u : PV} (a : Apart v u) {i : Nat} (hv : nm v i) (hu : nm u i) : False := by
  obtain ⟨z, o, n, e⟩ := hv
  obtain ⟨z', o', n', e'⟩ := hu
  exact a _ _ _ _ _ _ _ e e'
theorem Apart.of {v u : PV} (a : ∀ i, nm v i → nm u i → False) : Apart v u := fun z o n i z' o' n' e e' => a i ⟨_, _, _, e⟩ ⟨_, _, _, e'⟩
theorem Acc.of_nm {h h' : AH} {v : PV} {z : Nat} {cs : List PV} {n : Nat} (a : Acc h v z cs n) (h1 : h.nx ≤ h'.nx) (h2 : h'.lo = h.lo) (h3 : ∀ i, nm v i → i < h.nx → h'.blk i = h.blk i) : Acc h' v z cs n :=
  a.of_blk h1 h2 fun z o n i e hi => by simp only [AH.row]; rw [h3 i ⟨_, _, _, e⟩ hi]


theorem RepL.splice {R : PV → PV → Prop} {x y a b : List PV} (o : Nat) (h : RepL R x y) (hab : RepL R a b) : RepL R (Go.Ev.splice x o a) (Go.Ev.splice y o b) := by
  unfold Go.Ev.splice
  rw [hab.length]
  exact ((h.take o).append hab).append (h.drop _)
theorem flat_set {α : Type} [Enc α] (l : List α) (k : Nat) (hk : k < l.length) (x : α) : Go.Ev.splice (l.map Enc.c).flatten (k * Enc.z α) (Enc.c x) = ((l.set k x).map Enc.c).flatten := by
  unfold Go.Ev.splice
  rw [flat_take, Enc.len, ← Nat.succ_mul, flat_drop, List.set_eq_take_append_cons_drop, if_pos hk]
  simp
end Go.Ev

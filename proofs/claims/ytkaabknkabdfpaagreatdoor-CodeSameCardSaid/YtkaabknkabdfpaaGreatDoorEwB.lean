/- Plain data as cells, pointers into it, own blocks: the facts that stepping uses. -/
import Derived.Test.YtkaabknkabdfpaaGreatDoorEwA
import Derived.Test.YtkaabknkabdfpaaGreatDoorLibB
import Derived.IntWalk
set_option linter.unusedVariables false
set_option linter.unusedSimpArgs false
namespace Go.Ev

/-- Values without own memory, up to a depth. -/
def imm : Nat → PV → Bool
  | 0, _ => false
  | d + 1, v => match v with
    | .sl _ cs | .pi cs | .agg cs | .tup cs => cs.all (imm d)
    | .fn _ fs cs => fs.all (imm d) && cs.all (imm d)
    | .rf _ _ _ _ | .pt _ _ | .mp _ | .emp | .yl _ | .dfr _ => false
    | .ifc _ v => imm d v
    | _ => true

theorem imm_mono : ∀ (d d' : Nat) (v : PV), d ≤ d' → imm d v = true → imm d' v = true
  | 0, _, _, _, e => by cases e
  | d + 1, 0, _, h, _ => by omega
  | d + 1, d' + 1, v, h, e => by
    have ih : ∀ vs : List PV, vs.all (imm d) = true → vs.all (imm d') = true := fun vs hv =>
      List.all_eq_true.2 fun x hx => imm_mono d d' x (by omega) (List.all_eq_true.1 hv x hx)
    cases v <;> simp only [imm, Bool.and_eq_true] at e ⊢ <;> first
      | rfl
      | cases e; done
      | exact ih _ e
      | exact ⟨ih _ e.1, ih _ e.2⟩
      | exact imm_mono d d' _ (by omega) e

theorem allO_imm {F : PV → Option PV} {p : PV → Bool} (hF : ∀ v, p v = true → F v = some v) : ∀ (vs : List PV), vs.all p = true → allO F vs = some vs
  | [], _ => rfl
  | v :: r, h => by
    simp only [List.all_cons, Bool.and_eq_true] at h
    simp only [allO, hF v h.1, allO_imm hF r h.2]

theorem snap_imm (h : AH) : ∀ (d : Nat) (v : PV), imm d v = true → snap h d v = some v
  | 0, _, e => by cases e
  | d + 1, v, e => by
    have ih := fun vs => allO_imm (snap_imm h d) vs
    cases v <;> simp only [imm, Bool.and_eq_true] at e <;> first
      | rfl
      | cases e; done
      | (simp only [snap, ih _ e, Option.map_some]; done)
      | (simp only [snap, ih _ e.1, ih _ e.2]; done)
      | (simp only [snap, snap_imm h d _ e, Option.map_some]; done)
      | skip

theorem own_imm : ∀ (d : Nat) (v : PV), imm d v = true → own d v = false
  | 0, _, e => by cases e
  | d + 1, v, e => by
    have ih : ∀ vs : List PV, vs.all (imm d) = true → vs.any (own d) = false := fun vs hv => by
      rw [List.any_eq_false]
      intro x hx
      rw [own_imm d x (List.all_eq_true.1 hv x hx)]
      simp
    cases v <;> simp only [imm, Bool.and_eq_true] at e <;> first
      | rfl
      | cases e; done
      | (simp only [own, ih _ e]; done)
      | (simp only [own, ih _ e.1, ih _ e.2, Bool.or_self]; done)
      | exact own_imm d _ e
      | skip

/-- A type of plain data: its cells. -/
class Enc (α : Type) where
  z : Nat
  c : α → List PV
  len : ∀ x, (c x).length = z
  dep : Nat
  im : ∀ x, ∀ v ∈ c x, imm dep v = true
  pos : 0 < z

/-- A slice of plain data. -/
def sl {α : Type} [Enc α] (l : List α) : PV := .sl l.length (l.map Enc.c).flatten

theorem imm_sl {α : Type} [Enc α] (l : List α) : imm (Enc.dep α + 1) (sl l) = true := by
  simp only [sl, imm, List.all_eq_true]
  intro v hv
  obtain ⟨cs, h1, h2⟩ := List.mem_flatten.1 hv
  obtain ⟨x, _, rfl⟩ := List.mem_map.1 h1
  exact Enc.im x v h2

instance : Enc Int := ⟨1, fun n => [.int .i64 n], fun _ => rfl, 1, fun x v hv => by cases List.mem_singleton.1 hv; rfl, by decide⟩
instance : Enc Bool := ⟨1, fun n => [.bool n], fun _ => rfl, 1, fun x v hv => by cases List.mem_singleton.1 hv; rfl, by decide⟩
instance : Enc ByteArray := ⟨1, fun n => [.str n], fun _ => rfl, 1, fun x v hv => by cases List.mem_singleton.1 hv; rfl, by decide⟩
instance {α : Type} [Enc α] : Enc (List α) := ⟨1, fun l => [sl l], fun _ => rfl, Enc.dep α + 1, fun x v hv => by cases List.mem_singleton.1 hv; exact imm_sl x, by decide⟩
@[simp] theorem c_int (n : Int) : Enc.c n = [PV.int .i64 n] := rfl
@[simp] theorem c_bool (n : Bool) : Enc.c n = [PV.bool n] := rfl
@[simp] theorem c_str (n : ByteArray) : Enc.c n = [PV.str n] := rfl
@[simp] theorem c_sl {α : Type} [Enc α] (n : List α) : Enc.c n = [sl n] := rfl
@[simp] theorem z_int : Enc.z Int = 1 := rfl
@[simp] theorem z_bool : Enc.z Bool = 1 := rfl
@[simp] theorem z_str : Enc.z ByteArray = 1 := rfl
@[simp] theorem z_sl {α : Type} [Enc α] : Enc.z (List α) = 1 := rfl
@[simp] theorem dep_int : Enc.dep Int = 1 := rfl
@[simp] theorem dep_bool : Enc.dep Bool = 1 := rfl
@[simp] theorem dep_str : Enc.dep ByteArray = 1 := rfl
@[simp] theorem dep_sl {α : Type} [Enc α] : Enc.dep (List α) = Enc.dep α + 1 := rfl

@[simp] theorem snap_int (h : AH) (d : Nat) (k : IntKind) (n : Int) : snap h (d + 1) (.int k n) = some (.int k n) := rfl
@[simp] theorem snap_bool (h : AH) (d : Nat) (n : Bool) : snap h (d + 1) (.bool n) = some (.bool n) := rfl
@[simp] theorem snap_str (h : AH) (d : Nat) (n : ByteArray) : snap h (d + 1) (.str n) = some (.str n) := rfl
@[simp] theorem snap_emp (h : AH) (d : Nat) : snap h (d + 1) .emp = some (.sl 0 []) := rfl
@[simp] theorem snap_agg (h : AH) (d : Nat) (cs : List PV) : snap h (d + 1) (.agg cs) = (allO (snap h d) cs).map .agg := rfl
@[simp] theorem snap_tup (h : AH) (d : Nat) (cs : List PV) : snap h (d + 1) (.tup cs) = (allO (snap h d) cs).map .tup := rfl
@[simp] theorem snap_psl (h : AH) (d n : Nat) (cs : List PV) : snap h (d + 1) (.sl n cs) = (allO (snap h d) cs).map (.sl n) := rfl
@[simp] theorem own_psl (d n : Nat) (cs : List PV) : own (d + 1) (.sl n cs) = cs.any (own d) := Eq.trans rfl rfl
@[simp] theorem snap_sl {α : Type} [Enc α] (h : AH) (d : Nat) (l : List α) (hd : Enc.dep α ≤ d) : snap h (d + 1) (sl l) = some (sl l) :=
  snap_imm h _ _ (imm_mono _ _ _ (by omega) (imm_sl l))
@[simp] theorem allO_nil (F : PV → Option PV) : allO F [] = some [] := rfl
def cons2 (a : Option PV) (b : Option (List PV)) : Option (List PV) := match a, b with
  | some u, some us => some (u :: us)
  | _, _ => none
@[simp] theorem cons2_some (a : PV) (b : List PV) : cons2 (some a) (some b) = some (a :: b) := rfl
@[simp] theorem allO_cons (F : PV → Option PV) (v : PV) (vs : List PV) : allO F (v :: vs) = cons2 (F v) (allO F vs) := by
  simp only [allO, cons2]
  cases F v <;> cases allO F vs <;> rfl
@[simp] theorem own_int (d : Nat) (k : IntKind) (n : Int) : own (d + 1) (.int k n) = false := Eq.trans rfl rfl
@[simp] theorem own_bool (d : Nat) (n : Bool) : own (d + 1) (.bool n) = false := Eq.trans rfl rfl
@[simp] theorem own_str (d : Nat) (n : ByteArray) : own (d + 1) (.str n) = false := Eq.trans rfl rfl
@[simp] theorem own_emp (d : Nat) : own (d + 1) .emp = false := Eq.trans rfl rfl
@[simp] theorem own_agg (d : Nat) (cs : List PV) : own (d + 1) (.agg cs) = cs.any (own d) := Eq.trans rfl rfl
@[simp] theorem own_tup (d : Nat) (cs : List PV) : own (d + 1) (.tup cs) = cs.any (own d) := Eq.trans rfl rfl
@[simp] theorem own_rf (d z i o n : Nat) : own (d + 1) (.rf z i o n) = true := Eq.trans rfl rfl
@[simp] theorem own_sl {α : Type} [Enc α] (d : Nat) (l : List α) (hd : Enc.dep α ≤ d) : own (d + 1) (sl l) = false :=
  own_imm _ _ (imm_mono _ _ _ (by omega) (imm_sl l))
@[simp] theorem noImm_int (h : AH) (d : Nat) (k : IntKind) (n : Int) : noImm h (d + 1) (.int k n) = true := Eq.trans rfl rfl
@[simp] theorem noImm_bool (h : AH) (d : Nat) (n : Bool) : noImm h (d + 1) (.bool n) = true := Eq.trans rfl rfl
@[simp] theorem noImm_str (h : AH) (d : Nat) (n : ByteArray) : noImm h (d + 1) (.str n) = true := Eq.trans rfl rfl
@[simp] theorem noImm_emp (h : AH) (d : Nat) : noImm h (d + 1) .emp = true := Eq.trans rfl rfl
@[simp] theorem noImm_agg (h : AH) (d : Nat) (cs : List PV) : noImm h (d + 1) (.agg cs) = cs.all (noImm h d) := Eq.trans rfl rfl
@[simp] theorem noImm_tup (h : AH) (d : Nat) (cs : List PV) : noImm h (d + 1) (.tup cs) = cs.all (noImm h d) := Eq.trans rfl rfl
@[simp] theorem snapDepth_eq : snapDepth = 11 + 1 := rfl

section
variable {α : Type} [Enc α]

@[simp] theorem sl_nil : (PV.sl 0 [] : PV) = sl ([] : List Int) := rfl
theorem sl_nil' (β : Type) [Enc β] : sl ([] : List Int) = sl ([] : List β) := rfl

/-- A pointer to cell 'off' of element k. -/
def ptr (l : List α) (k off : Nat) : PV := .pi ((l.map Enc.c).flatten.drop (k * Enc.z α + off))

@[simp] theorem evLen_sl (h : AH) (l : List α) : evLen h 1 (sl l) = some (.int .i64 l.length) := rfl
@[simp] theorem evLen_emp (h : AH) : evLen h 1 .emp = some (.int .i64 0) := rfl
@[simp] theorem evLen_rf (h : AH) (z i o n : Nat) : evLen h 1 (.rf z i o n) = some (.int .i64 n) := rfl
@[simp] theorem evLen_str (h : AH) (b : ByteArray) : evLen h 0 (.str b) = some (.int .i64 b.size) := rfl

theorem flat_len' (l : List α) : (l.map Enc.c).flatten.length = l.length * Enc.z α := flat_len Enc.len l

theorem evIdx_sl {l : List α} {z : Nat} {i : Int} (hz : z = Enc.z α) (h0 : 0 ≤ i) (h1 : i.toNat < l.length) : evIdx z (sl l) i = some (ptr l i.toNat 0) := by
  subst hz
  simp only [sl, evIdx]
  rw [if_pos ⟨h0, by omega, flat_len' l, Enc.pos⟩]
  rfl
/-- At a number k. -/
theorem evIdx_nat {l : List α} {z k : Nat} (hz : z = Enc.z α) (h1 : k < l.length) : evIdx z (sl l) (k : Int) = some (ptr l k 0) := evIdx_sl hz (by omega) (by simpa using h1)

theorem evIdx_rf {z b o n k : Nat} (h1 : k < n) : evIdx z (.rf z b o n) (k : Int) = some (.pt b (o + k * z)) := by
  show (if 0 ≤ (k : Int) ∧ (k : Int) < n ∧ z = z then _ else _) = _
  rw [if_pos ⟨by omega, by omega, rfl⟩]
  simp
theorem evIdx_rfi {z b o n : Nat} {i : Int} (h0 : 0 ≤ i) (h1 : i.toNat < n) : evIdx z (.rf z b o n) i = some (.pt b (o + i.toNat * z)) := by
  show (if 0 ≤ i ∧ i < n ∧ z = z then _ else _) = _
  rw [if_pos ⟨h0, by omega, rfl⟩]
theorem evMks_nat {h : AH} {z b n : Nat} {zs : List PV} (hr : roomOk n (b + 1) = true) : evMks h z b zs (.int .i64 (n : Int)) (.int .i64 (n : Int)) = some (.rf z h.nx 0 n, h.push (.cells (List.replicate n zs).flatten)) := by
  show (if 0 ≤ (n : Int) ∧ (n : Int) ≤ (n : Int) ∧ roomOk (n : Int).toNat (b + 1) = true then _ else _) = _
  rw [if_pos ⟨by omega, by omega, by simpa using hr⟩]
  simp
theorem bnd_nat {k : IntKind} {m y : Nat} (h : m ≤ y) : bnd (.int k (m : Int)) y = some m := by
  simp only [bnd]; rw [if_pos ⟨by omega, by omega⟩]; simp
theorem evSlice_rf_lo {z i o n m : Nat} (h : m ≤ n) : evSlice z (.rf z i o n) (some (.int .i64 (m : Int))) none none = some (.rf z i (o + m * z) (n - m)) := by
  simp [evSlice, bndO, bnd_nat h]
theorem evSlice_rf_hi {z i o n m : Nat} (h : m ≤ n) : evSlice z (.rf z i o n) none (some (.int .i64 (m : Int))) none = some (.rf z i o m) := by
  simp [evSlice, bndO, bnd_nat h]
theorem evSlice_rf {z i o n a b : Nat} (h : a ≤ b) (h2 : b ≤ n) : evSlice z (.rf z i o n) (some (.int .i64 (a : Int))) (some (.int .i64 (b : Int))) none = some (.rf z i (o + a * z) (b - a)) := by
  simp [evSlice, bndO, bnd_nat h, bnd_nat h2]
theorem flat_drop (l : List α) (a : Nat) : (l.map Enc.c).flatten.drop (a * Enc.z α) = ((l.drop a).map Enc.c).flatten := by
  induction a generalizing l with
  | zero => simp
  | succ a ih =>
    cases l with
    | nil => simp
    | cons x l =>
      rw [List.map_cons, List.flatten_cons, Nat.succ_mul, Nat.add_comm, ← List.drop_drop, List.drop_left' (Enc.len x), ih]
      rfl
theorem flat_take (l : List α) (a : Nat) : (l.map Enc.c).flatten.take (a * Enc.z α) = ((l.take a).map Enc.c).flatten := by
  induction a generalizing l with
  | zero => simp
  | succ a ih =>
    cases l with
    | nil => simp
    | cons x l =>
      rw [List.map_cons, List.flatten_cons, Nat.succ_mul, Nat.add_comm, List.take_append, Enc.len x, List.take_of_length_le (by rw [Enc.len x]; omega), Nat.add_sub_cancel_left, ih]
      rfl
theorem evSlice_sl_lo {l : List α} {z m : Nat} (hz : z = Enc.z α) (h : m ≤ l.length) : evSlice z (sl l) (some (.int .i64 (m : Int))) none none = some (sl (l.drop m)) := by
  subst hz
  simp only [evSlice, sl, bndO, bnd_nat h]
  rw [flat_drop, List.take_of_length_le (by rw [flat_len']; simp)]
  simp
theorem evSlice_sl_hi {l : List α} {z m : Nat} (hz : z = Enc.z α) (h : m ≤ l.length) : evSlice z (sl l) none (some (.int .i64 (m : Int))) none = some (sl (l.take m)) := by
  subst hz
  simp only [evSlice, sl, bndO, bnd_nat h, Nat.zero_mul, List.drop_zero, Nat.sub_zero, flat_take, List.length_take]
  rw [Nat.min_eq_left h]
theorem evSlice_sl {l : List α} {z a b : Nat} (hz : z = Enc.z α) (h : a ≤ b) (h2 : b ≤ l.length) : evSlice z (sl l) (some (.int .i64 (a : Int))) (some (.int .i64 (b : Int))) none = some (sl ((l.drop a).take (b - a))) := by
  subst hz
  simp only [evSlice, sl, bndO, bnd_nat h, bnd_nat h2, flat_drop, flat_take, List.length_take, List.length_drop]
  rw [Nat.min_eq_left (by omega)]
@[simp] theorem evFld_ptr {l : List α} {k off j : Nat} : evFld j (ptr l k off) = some (ptr l k (off + j)) := by
  simp only [ptr, evFld, List.drop_drop]; rw [Nat.add_assoc]
@[simp] theorem evFld_pi {cs : List PV} {j : Nat} : evFld j (.pi cs) = some (.pi (cs.drop j)) := rfl
@[simp] theorem evFld_pt {i o j : Nat} : evFld j (.pt i o) = some (.pt i (o + j)) := rfl

theorem rds_ptr {h : AH} {l : List α} {k off n : Nat} (hk : k < l.length) (hn : off + n ≤ Enc.z α) : rds h (ptr l k off) n = some (((Enc.c (l[k]'hk)).drop off).take n) := by
  have hle : k * Enc.z α + Enc.z α ≤ l.length * Enc.z α := by
    have : (k + 1) * Enc.z α ≤ l.length * Enc.z α := Nat.mul_le_mul_right _ hk
    rw [Nat.succ_mul] at this
    exact this
  simp only [ptr, rds]
  rw [if_pos (by rw [List.length_drop, flat_len']; omega)]
  congr 1
  apply List.ext_getElem?
  intro i
  rw [List.getElem?_take, List.getElem?_drop, List.getElem?_take, List.getElem?_drop]
  by_cases hi : i < n
  · rw [if_pos hi, if_pos hi, Nat.add_assoc, flat_get Enc.len l k (off + i) hk (by omega)]
  · rw [if_neg hi, if_neg hi]

theorem rd1_ptr {h : AH} {l : List α} {k off : Nat} (hk : k < l.length) (hn : off < Enc.z α) : rd1 h (ptr l k off) = (Enc.c (l[k]'hk))[off]? := by
  simp only [ptr, rd1]
  rw [List.getElem?_drop, Nat.add_zero, flat_get Enc.len l k off hk hn]
end

@[simp] theorem rds_pi {h : AH} {cs : List PV} {n : Nat} (hn : n ≤ cs.length) : rds h (.pi cs) n = some (cs.take n) := by simp [rds, hn]
@[simp] theorem rd1_pi {h : AH} {cs : List PV} : rd1 h (.pi cs) = cs[0]? := rfl

/-- Own blocks. -/
def rowAt (r : Option (List PV)) (o : Nat) : Option PV := match r with
  | some cs => cs[o]?
  | none => none
@[simp] theorem rowAt_some {cs : List PV} {o : Nat} : rowAt (some cs) o = cs[o]? := rfl
def rowTk (r : Option (List PV)) (o n : Nat) : Option (List PV) := match r with
  | some cs => if o + n ≤ cs.length then some ((cs.drop o).take n) else none
  | none => none
@[simp] theorem rowTk_some {cs : List PV} {o n : Nat} (h : o + n ≤ cs.length) : rowTk (some cs) o n = some ((cs.drop o).take n) := by simp [rowTk, h]
@[simp] theorem rd1_pt {h : AH} {i o : Nat} : rd1 h (.pt i o) = rowAt (h.row i) o := rfl
@[simp] theorem rds_pt {h : AH} {i o n : Nat} : rds h (.pt i o) n = rowTk (h.row i) o n := rfl

@[simp] theorem ne_add2 (n : Nat) : (n = n + 1 + 1) = False := by simp only [eq_iff_iff, iff_false]; omega
@[simp] theorem ne_add2' (n : Nat) : (n + 1 + 1 = n) = False := by simp only [eq_iff_iff, iff_false]; omega
@[simp] theorem lt_add2 (n : Nat) : n < n + 1 + 1 := by omega
@[simp] theorem ne_add3 (n : Nat) : (n = n + 1 + 1 + 1) = False := by simp only [eq_iff_iff, iff_false]; omega
@[simp] theorem ne_add3' (n : Nat) : (n + 1 + 1 + 1 = n) = False := by simp only [eq_iff_iff, iff_false]; omega
@[simp] theorem lt_add3 (n : Nat) : n < n + 1 + 1 + 1 := by omega
@[simp] theorem ne_add4 (n : Nat) : (n = n + 1 + 1 + 1 + 1) = False := by simp only [eq_iff_iff, iff_false]; omega
@[simp] theorem ne_add4' (n : Nat) : (n + 1 + 1 + 1 + 1 = n) = False := by simp only [eq_iff_iff, iff_false]; omega
@[simp] theorem lt_add4 (n : Nat) : n < n + 1 + 1 + 1 + 1 := by omega
@[simp] theorem ne_add5 (n : Nat) : (n = n + 1 + 1 + 1 + 1 + 1) = False := by simp only [eq_iff_iff, iff_false]; omega
@[simp] theorem ne_add5' (n : Nat) : (n + 1 + 1 + 1 + 1 + 1 = n) = False := by simp only [eq_iff_iff, iff_false]; omega
@[simp] theorem lt_add5 (n : Nat) : n < n + 1 + 1 + 1 + 1 + 1 := by omega
@[simp] theorem ne_add6 (n : Nat) : (n = n + 1 + 1 + 1 + 1 + 1 + 1) = False := by simp only [eq_iff_iff, iff_false]; omega
@[simp] theorem ne_add6' (n : Nat) : (n + 1 + 1 + 1 + 1 + 1 + 1 = n) = False := by simp only [eq_iff_iff, iff_false]; omega
@[simp] theorem lt_add6 (n : Nat) : n < n + 1 + 1 + 1 + 1 + 1 + 1 := by omega
@[simp] theorem le_add2 (n : Nat) : n ≤ n + 1 + 1 := by omega
@[simp] theorem le_add3 (n : Nat) : n ≤ n + 1 + 1 + 1 := by omega
@[simp] theorem le_add4 (n : Nat) : n ≤ n + 1 + 1 + 1 + 1 := by omega
@[simp] theorem le_add5 (n : Nat) : n ≤ n + 1 + 1 + 1 + 1 + 1 := by omega
@[simp] theorem nx_push {h : AH} {B : Blk} : (h.push B).nx = h.nx + 1 := Eq.trans rfl rfl
@[simp] theorem lo_push {h : AH} {B : Blk} : (h.push B).lo = h.lo := Eq.trans rfl rfl
@[simp] theorem nx_set {h : AH} {i : Nat} {B : Blk} : (h.set i B).nx = h.nx := Eq.trans rfl rfl
@[simp] theorem lo_set {h : AH} {i : Nat} {B : Blk} : (h.set i B).lo = h.lo := Eq.trans rfl rfl
@[simp] theorem nx_del {h : AH} {i : Nat} : (h.del i).nx = h.nx := Eq.trans rfl rfl
@[simp] theorem lo_del {h : AH} {i : Nat} : (h.del i).lo = h.lo := Eq.trans rfl rfl
@[simp] theorem nx_zero : AH.zero.nx = 0 := Eq.trans rfl rfl
@[simp] theorem lo_zero : AH.zero.lo = 0 := Eq.trans rfl rfl
@[simp] theorem row_zero {i : Nat} : AH.zero.row i = none := rfl
@[simp] theorem blk_zero {i : Nat} : AH.zero.blk i = none := rfl
@[simp] theorem row_push {h : AH} {cs : List PV} {i : Nat} : (h.push (.cells cs)).row i = if i = h.nx then some cs else h.row i := by
  by_cases e : i = h.nx <;> simp [AH.push, AH.row, e]
@[simp] theorem row_pushm {h : AH} {es : List (PV × PV)} {i : Nat} : (h.push (.map es)).row i = if i = h.nx then none else h.row i := by
  by_cases e : i = h.nx <;> simp [AH.push, AH.row, e]
@[simp] theorem row_set {h : AH} {j : Nat} {cs : List PV} {i : Nat} : (h.set j (.cells cs)).row i = if i = j then some cs else h.row i := by
  by_cases e : i = j <;> simp [AH.set, AH.row, e]
@[simp] theorem row_setm {h : AH} {j : Nat} {es : List (PV × PV)} {i : Nat} : (h.set j (.map es)).row i = if i = j then none else h.row i := by
  by_cases e : i = j <;> simp [AH.set, AH.row, e]
@[simp] theorem row_del {h : AH} {j : Nat} {i : Nat} : (h.del j).row i = if i = j then none else h.row i := by
  by_cases e : i = j <;> simp [AH.del, AH.row, e]
@[simp] theorem blk_push {h : AH} {B : Blk} {i : Nat} : (h.push B).blk i = if i = h.nx then some B else h.blk i := rfl
@[simp] theorem blk_set {h : AH} {B : Blk} {i j : Nat} : (h.set j B).blk i = if i = j then some B else h.blk i := rfl
@[simp] theorem blk_del {h : AH} {i j : Nat} : (h.del j).blk i = if i = j then none else h.blk i := rfl
theorem push_ext {h h' : AH} (e1 : h.nx = h'.nx) (e2 : h.lo = h'.lo) (e3 : ∀ i, h.blk i = h'.blk i) (e4 : h.ty = h'.ty := by rfl) : h = h' := by
  cases h; cases h'; simp only [AH.mk.injEq] at *; exact ⟨e1, e2, funext e3, e4⟩
@[simp] theorem set_push {h : AH} {i : Nat} {A B : Blk} : (h.push A).set i B = if i = h.nx then h.push B else (h.set i B).push A := by
  split
  · rename_i hi
    exact push_ext rfl rfl fun j => by simp only [blk_set, blk_push, hi]; split <;> rfl
  · rename_i hi
    refine push_ext rfl rfl fun j => ?_
    simp only [blk_set, blk_push, nx_set]
    by_cases h1 : j = i
    · subst h1; simp [hi]
    · simp [h1]
@[simp] theorem set_set {h : AH} {i : Nat} {A B : Blk} : (h.set i A).set i B = h.set i B := push_ext rfl rfl fun j => by simp only [blk_set]; split <;> rfl

@[simp] theorem lowOk_pt {h : AH} {i o : Nat} : lowOk h (.pt i o) = decide (h.lo ≤ i) := Eq.trans rfl rfl
@[simp] theorem lowOk_mp {h : AH} {i : Nat} : lowOk h (.mp i) = decide (h.lo ≤ i) := Eq.trans rfl rfl
@[simp] theorem lowOk_rf {h : AH} {z i o n : Nat} : lowOk h (.rf z i o n) = decide (h.lo ≤ i) := Eq.trans rfl rfl
@[simp] theorem lowOk_emp {h : AH} : lowOk h .emp = true := Eq.trans rfl rfl
@[simp] theorem lowOk_nilm {h : AH} : lowOk h .nilm = true := Eq.trans rfl rfl

@[simp] theorem one_int {k : IntKind} {n : Int} : (PV.int k n).one = true := Eq.trans rfl rfl
@[simp] theorem one_bool {b : Bool} : (PV.bool b).one = true := Eq.trans rfl rfl
@[simp] theorem one_str {b : ByteArray} : (PV.str b).one = true := Eq.trans rfl rfl
@[simp] theorem one_sl {α : Type} [Enc α] {l : List α} : (sl l).one = true := Eq.trans rfl rfl
@[simp] theorem one_psl {n : Nat} {cs : List PV} : (PV.sl n cs).one = true := Eq.trans rfl rfl
@[simp] theorem one_emp : PV.emp.one = true := Eq.trans rfl rfl
@[simp] theorem one_rf {z i o n : Nat} : (PV.rf z i o n).one = true := Eq.trans rfl rfl
@[simp] theorem one_pt {i o : Nat} : (PV.pt i o).one = true := Eq.trans rfl rfl
@[simp] theorem one_pi {cs : List PV} : (PV.pi cs).one = true := Eq.trans rfl rfl
@[simp] theorem one_mp {i : Nat} : (PV.mp i).one = true := Eq.trans rfl rfl
@[simp] theorem one_nilm : PV.nilm.one = true := Eq.trans rfl rfl
@[simp] theorem one_nilp : PV.nilp.one = true := Eq.trans rfl rfl
@[simp] theorem one_nilf : PV.nilf.one = true := Eq.trans rfl rfl
@[simp] theorem one_fn {f : Nat} {fs cs : List PV} : (PV.fn f fs cs).one = true := Eq.trans rfl rfl
@[simp] theorem okc_one {v : PV} (h : v.one = true) : v.okc = true := by cases v <;> first | rfl | cases h
@[simp] theorem okc_agg {cs : List PV} : (PV.agg cs).okc = true := Eq.trans rfl rfl
@[simp] theorem cells_one {v : PV} (h : v.one = true) : v.cells = [v] := by cases v <;> first | rfl | cases h
@[simp] theorem cells_int {k : IntKind} {n : Int} : (PV.int k n).cells = [.int k n] := Eq.trans rfl rfl
@[simp] theorem cells_bool {b : Bool} : (PV.bool b).cells = [.bool b] := Eq.trans rfl rfl
@[simp] theorem cells_str {b : ByteArray} : (PV.str b).cells = [.str b] := Eq.trans rfl rfl
@[simp] theorem cells_sl {α : Type} [Enc α] {l : List α} : (sl l).cells = [sl l] := Eq.trans rfl rfl
@[simp] theorem cells_psl {n : Nat} {cs : List PV} : (PV.sl n cs).cells = [.sl n cs] := Eq.trans rfl rfl
@[simp] theorem cells_emp : PV.emp.cells = [.emp] := Eq.trans rfl rfl
@[simp] theorem cells_rf {z i o n : Nat} : (PV.rf z i o n).cells = [.rf z i o n] := Eq.trans rfl rfl
@[simp] theorem cells_pt {i o : Nat} : (PV.pt i o).cells = [.pt i o] := Eq.trans rfl rfl
@[simp] theorem cells_pi {cs : List PV} : (PV.pi cs).cells = [.pi cs] := Eq.trans rfl rfl
@[simp] theorem cells_agg {cs : List PV} : (PV.agg cs).cells = cs := Eq.trans rfl rfl

def wrA (h : AH) (i : Nat) (r : Option (List PV)) (o n : Nat) (ys : List PV) : Option AH := match r with
  | some cs => if ys.length = n ∧ o + n ≤ cs.length then some (h.set i (.cells (splice cs o ys))) else none
  | none => none
@[simp] theorem wrA_some {h : AH} {i : Nat} {cs : List PV} {o n : Nat} {ys : List PV} (hc : ys.length = n ∧ o + n ≤ cs.length) : wrA h i (some cs) o n ys = some (h.set i (.cells (splice cs o ys))) := by
  simp [wrA, hc]
@[simp] theorem wr_agg {h : AH} {i o n : Nat} {ys : List PV} : wr h (.pt i o) (.agg ys) n = wrA h i (h.row i) o n ys := by
  simp only [wr, wrA]; cases h.row i <;> rfl
def wr1 (h : AH) (i : Nat) (r : Option (List PV)) (o : Nat) (v : PV) : Option AH := match r with
  | some cs => if o < cs.length then some (h.set i (.cells (cs.set o v))) else none
  | none => none
@[simp] theorem wr1_some {h : AH} {i : Nat} {cs : List PV} {o : Nat} {v : PV} (hc : o < cs.length) : wr1 h i (some cs) o v = some (h.set i (.cells (cs.set o v))) := by
  simp [wr1, hc]
@[simp] theorem wr_one {h : AH} {i o : Nat} {v : PV} (hv : v.one = true) : wr h (.pt i o) v 1 = wr1 h i (h.row i) o v := by
  simp only [wr, wr1]
  cases h.row i with
  | none => rfl
  | some cs => cases v <;> first | (simp; done) | cases hv
attribute [simp] splice evWr evBox evBoxN evBoxi

/-- Slices' cells. -/
@[simp] theorem src_sl {α : Type} [Enc α] {h : AH} {l : List α} {z : Nat} (hz : z = Enc.z α) : src h z (sl l) = some (l.length, (l.map Enc.c).flatten) := by
  subst hz; simp only [src, sl, flat_len', if_true]
@[simp] theorem src_emp {h : AH} {z : Nat} : src h z .emp = some (0, []) := rfl
theorem src_psl {h : AH} {z n : Nat} {cs : List PV} (hc : cs.length = n * z) : src h z (.sl n cs) = some (n, cs) := by simp [src, hc]
def rowSrc (r : Option (List PV)) (z o n : Nat) : Option (Nat × List PV) := match r with
  | some cs => if o + n * z ≤ cs.length then some (n, (cs.drop o).take (n * z)) else .none
  | none => none
@[simp] theorem rowSrc_some {cs : List PV} {z o n : Nat} (hc : o + n * z ≤ cs.length) : rowSrc (some cs) z o n = some (n, (cs.drop o).take (n * z)) := by simp [rowSrc, hc]
@[simp] theorem src_rf {h : AH} {z i o n z' : Nat} : src h z (.rf z' i o n) = rowSrc (h.row i) z o n := rfl

@[simp] theorem evBlit_eq {n : Nat} {zs : List PV} {ps : List (Nat × Nat × PV)} : evBlit n zs ps = (fillP zs ps).map fun cs => if n = 0 then .emp else .sl n cs := rfl
@[simp] theorem fillP_nil {cs : List PV} : fillP cs [] = some cs := rfl
@[simp] theorem fillP_cons {cs : List PV} {off n : Nat} {v : PV} {r : List (Nat × Nat × PV)} (hc : v.okc = true ∧ v.cells.length = n ∧ off + n ≤ cs.length) : fillP cs ((off, n, v) :: r) = fillP (splice cs off v.cells) r := by
  simp only [fillP]; rw [if_pos hc]

theorem evClr_rf {h : AH} {z i o n : Nat} {zs cs : List PV} (hlo : h.lo ≤ i) (hr : h.row i = some cs) (hl : o + n * z ≤ cs.length) (hz : zs.length = z) :
    evClr h z zs (.rf z i o n) = some (.tup [], h.set i (.cells (splice cs o (List.replicate n zs).flatten))) := by
  simp only [evClr, lowOk_rf, hlo, decide_true, evClear, hr]
  rw [if_pos trivial, if_pos ⟨trivial, hl, hz⟩]
/-- Binary operations. -/
@[simp] theorem evBin_add {k : IntKind} {a b : Int} : evBin .add (.int k a) (.int k b) = some (.int k (k.wrap (a + b))) := by simp [evBin]
@[simp] theorem evBin_sub {k : IntKind} {a b : Int} : evBin .sub (.int k a) (.int k b) = some (.int k (k.wrap (a - b))) := by simp [evBin]
@[simp] theorem evBin_mul {k : IntKind} {a b : Int} : evBin .mul (.int k a) (.int k b) = some (.int k (k.wrap (a * b))) := by simp [evBin]
@[simp] theorem evBin_eql {k : IntKind} {a b : Int} : evBin .eql (.int k a) (.int k b) = some (.bool (decide (a = b))) := by simp only [evBin, ne_eq, not_true, if_false]; rfl
@[simp] theorem evBin_neq {k : IntKind} {a b : Int} : evBin .neq (.int k a) (.int k b) = some (.bool (!decide (a = b))) := by simp only [evBin, ne_eq, not_true, if_false]; rfl
@[simp] theorem evBin_lss {k : IntKind} {a b : Int} : evBin .lss (.int k a) (.int k b) = some (.bool (decide (a < b))) := by simp [evBin]
@[simp] theorem evBin_leq {k : IntKind} {a b : Int} : evBin .leq (.int k a) (.int k b) = some (.bool (decide (a ≤ b))) := by simp [evBin]
@[simp] theorem evBin_gtr {k : IntKind} {a b : Int} : evBin .gtr (.int k a) (.int k b) = some (.bool (decide (a > b))) := by simp [evBin]
@[simp] theorem evBin_geq {k : IntKind} {a b : Int} : evBin .geq (.int k a) (.int k b) = some (.bool (decide (a ≥ b))) := by simp [evBin]
@[simp] theorem evBin_seql {a b : ByteArray} : evBin .eql (.str a) (.str b) = some (.bool (decide (a = b))) := rfl
@[simp] theorem evBin_sneq {a b : ByteArray} : evBin .neq (.str a) (.str b) = some (.bool (!decide (a = b))) := rfl
@[simp] theorem evUn_not {b : Bool} : evUn .not (.bool b) = some (.bool !b) := rfl
@[simp] theorem evUn_neg {k : IntKind} {n : Int} : evUn .neg (.int k n) = some (.int k (k.wrap (0 - n))) := rfl

theorem w64 {n : Int} (h : -9223372036854775808 ≤ n ∧ n ≤ 9223372036854775807) : IntKind.i64.wrap n = n := Go.IntWalk.i64_in n h
@[simp] theorem w64_nat1 {n : Nat} (h : n < 9223372036854775807) : IntKind.i64.wrap ((n : Int) + 1) = ((n + 1 : Nat) : Int) := by rw [w64 (by omega)]; omega

@[simp] theorem resOf_one {s : Fr} {h : AH} {r : CRes} : resOf [r] s h = resAt h s r := by
  simp only [resOf, resAll]
  cases resAt h s r <;> rfl
@[simp] theorem resAt_t {s : Fr} {h : AH} {n : Nat} : resAt h s (.t n) = some (s n) := rfl
@[simp] theorem resAt_cell1 {s : Fr} {h : AH} {n t : Nat} : resAt h s (.cell false n t) = rd1 h (s t) := rfl
@[simp] theorem resAt_cell {s : Fr} {h : AH} {n t : Nat} : resAt h s (.cell true n t) = (rds h (s t) n).map .agg := rfl
def tupO (vs : Option (List PV)) : Option PV := vs.map .tup
@[simp] theorem tupO_some {vs : List PV} : tupO (some vs) = some (.tup vs) := rfl
@[simp] theorem resAll_cons {s : Fr} {h : AH} {r : CRes} {rs : List CRes} : resAll h s (r :: rs) = cons2 (resAt h s r) (resAll h s rs) := by
  simp only [resAll, cons2]
  cases resAt h s r <;> cases resAll h s rs <;> rfl
@[simp] theorem resAll_nil {s : Fr} {h : AH} : resAll h s [] = some [] := rfl
@[simp] theorem resOf_nil {s : Fr} {h : AH} : resOf [] s h = some (.tup []) := rfl
@[simp] theorem resOf_two {s : Fr} {h : AH} {r1 r2 : CRes} {rs : List CRes} : resOf (r1 :: r2 :: rs) s h = tupO (cons2 (resAt h s r1) (cons2 (resAt h s r2) (resAll h s rs))) := by
  simp only [resOf, resAll_cons, tupO]
  cases resAt h s r1 <;> cases resAt h s r2 <;> cases resAll h s rs <;> rfl

def and2 (a b : Option Bool) : Option Bool := match a, b with
  | some a, some b => some (a && b)
  | _, _ => none
@[simp] theorem and2_some (a b : Bool) : and2 (some a) (some b) = some (a && b) := rfl
@[simp] theorem cellsEq_nil : cellsEq [] [] [] = some true := rfl
@[simp] theorem cellsEq_int {k : IntKind} {a b : Int} {ks : List Nat} {xs ys : List PV} : cellsEq (0 :: ks) (.int k a :: xs) (.int k b :: ys) = and2 (some (decide (a = b))) (cellsEq ks xs ys) := by
  simp only [cellsEq, kindOk, cellEq, if_true, and2]; cases cellsEq ks xs ys <;> rfl
@[simp] theorem cellsEq_bool {a b : Bool} {ks : List Nat} {xs ys : List PV} : cellsEq (1 :: ks) (.bool a :: xs) (.bool b :: ys) = and2 (some (decide (a = b))) (cellsEq ks xs ys) := by
  simp only [cellsEq, kindOk, cellEq, if_true, and2]; cases a <;> cases b <;> cases cellsEq ks xs ys <;> rfl
@[simp] theorem cellsEq_str {a b : ByteArray} {ks : List Nat} {xs ys : List PV} : cellsEq (2 :: ks) (.str a :: xs) (.str b :: ys) = and2 (some (decide (a = b))) (cellsEq ks xs ys) := by
  simp only [cellsEq, kindOk, cellEq, if_true, and2]; cases cellsEq ks xs ys <;> rfl

/-- An own slice that grows: its cells. -/
def Acc (h : AH) (v : PV) (z : Nat) (cs : List PV) (n : Nat) : Prop :=
  cs.length = n * z ∧ ((v = .emp ∧ n = 0) ∨ ∃ i, v = .rf z i 0 n ∧ h.row i = some cs ∧ i < h.nx ∧ h.lo ≤ i)

/-- Nothing changes but the block that a value names, and nothing is lost. -/
def Keeps (h h' : AH) (v : PV) : Prop :=
  h.nx ≤ h'.nx ∧ h'.lo = h.lo ∧ ∀ i, i < h.nx → (∀ z o n, v ≠ .rf z i o n) → h'.blk i = h.blk i

/-- A value v became v', and nothing else was touched: v' is v, or empty, or in a block made since. -/
def Mv (h : AH) (v : PV) (h' : AH) (v' : PV) : Prop := Keeps h h' v ∧ (v' = v ∨ v' = .emp ∨ ∃ z i o n, v' = .rf z i o n ∧ h.nx ≤ i)
theorem Mv.refl (h : AH) (v : PV) : Mv h v h v := ⟨⟨Nat.le_refl _, rfl, fun _ _ _ => rfl⟩, .inl rfl⟩
theorem Mv.trans {h h1 h2 : AH} {v v1 v2 : PV} (a : Mv h v h1 v1) (b : Mv h1 v1 h2 v2) : Mv h v h2 v2 := by
  obtain ⟨⟨a1, a2, a3⟩, a4⟩ := a
  obtain ⟨⟨b1, b2, b3⟩, b4⟩ := b
  refine ⟨⟨Nat.le_trans a1 b1, b2.trans a2, fun i hi hne => ?_⟩, ?_⟩
  · rw [b3 i (by omega), a3 i hi hne]
    intro z o n e
    rcases a4 with rfl | rfl | ⟨z', i', o', n', rfl, hi'⟩
    · exact hne z o n e
    · cases e
    · cases e; omega
  · rcases b4 with rfl | rfl | ⟨z', i', o', n', rfl, hi'⟩
    · exact a4
    · exact .inr (.inl rfl)
    · exact .inr (.inr ⟨_, _, _, _, rfl, by omega⟩)
theorem Mv.push {h h1 : AH} {v v1 : PV} (a : Mv h v h1 v1) (B : Blk) : Mv h v (h1.push B) v1 := by
  refine ⟨⟨Nat.le_succ_of_le a.1.1, a.1.2.1, fun i hi hne => ?_⟩, a.2⟩
  rw [AH.push]
  simp only
  rw [if_neg (by have := a.1.1; omega)]
  exact a.1.2.2 i hi hne
theorem Mv.blk {h h' : AH} {v v' : PV} (a : Mv h v h' v') {i : Nat} (hi : i < h.nx) (hne : ∀ z o n, v ≠ .rf z i o n) : h'.blk i = h.blk i := a.1.2.2 i hi hne
theorem Mv.row {h h' : AH} {v v' : PV} (a : Mv h v h' v') {i : Nat} (hi : i < h.nx) (hne : ∀ z o n, v ≠ .rf z i o n) : h'.row i = h.row i := by
  simp only [AH.row, a.blk hi hne]
theorem Mv.ne {h h' : AH} {v v' : PV} (a : Mv h v h' v') {i : Nat} (hi : i < h.nx) (hne : ∀ z o n, v ≠ .rf z i o n) : ∀ z o n, v' ≠ .rf z i o n := by
  intro z o n e
  rcases a.2 with rfl | rfl | ⟨z', i', o', n', rfl, hi'⟩
  · exact hne z o n e
  · cases e
  · cases e; omega
theorem Mv.grow {h h' : AH} {v v' : PV} (a : Mv h v h' v') : h'.lo = h.lo ∧ h.nx ≤ h'.nx := ⟨a.1.2.1, a.1.1⟩

theorem Acc.emp {h : AH} {z : Nat} : Acc h .emp z [] 0 := ⟨by simp, .inl ⟨rfl, rfl⟩⟩
theorem Acc.nil {h : AH} {v : PV} {z : Nat} {cs : List PV} (a : Acc h v z cs 0) : cs = [] := by simpa using a.1

theorem Acc.of_blk {h h' : AH} {v : PV} {z : Nat} {cs : List PV} {n : Nat} (a : Acc h v z cs n) (h1 : h.nx ≤ h'.nx) (h2 : h'.lo = h.lo) (h3 : ∀ z o n i, v = .rf z i o n → i < h.nx → h'.row i = h.row i) : Acc h' v z cs n := by
  obtain ⟨hl, a⟩ := a
  refine ⟨hl, a.imp id ?_⟩
  rintro ⟨i, rfl, hr, hi, hlo⟩
  exact ⟨i, rfl, by rw [h3 _ _ _ i rfl hi]; exact hr, by omega, by rw [h2]; exact hlo⟩
theorem Acc.push {h : AH} {v : PV} {z : Nat} {cs : List PV} {n : Nat} (B : Blk) (a : Acc h v z cs n) : Acc (h.push B) v z cs n :=
  a.of_blk (Nat.le_succ _) rfl fun _ _ _ i _ hi => by simp only [AH.row, blk_push, if_neg (show i ≠ h.nx by omega)]
theorem Acc.len {h : AH} {v : PV} {z : Nat} {cs : List PV} {n : Nat} (a : Acc h v z cs n) : evLen h 1 v = some (.int .i64 n) := by
  obtain ⟨_, ⟨rfl, rfl⟩ | ⟨i, rfl, _⟩⟩ := a <;> rfl
theorem Acc.one {h : AH} {v : PV} {z : Nat} {cs : List PV} {n : Nat} (a : Acc h v z cs n) : v.one = true := by
  obtain ⟨_, ⟨rfl, rfl⟩ | ⟨i, rfl, _⟩⟩ := a <;> rfl
theorem Acc.src {h : AH} {v : PV} {z : Nat} {cs : List PV} {n : Nat} (a : Acc h v z cs n) : src h z v = some (n, cs) := by
  obtain ⟨hl, ⟨rfl, rfl⟩ | ⟨i, rfl, hr, _⟩⟩ := a
  · simp at hl; subst hl; rfl
  · rw [src_rf, hr, rowSrc_some (by omega)]; simp [← hl]

theorem WR_app_acc {T : Nat → Option Fun} {s : Fr} {h : AH} {x y : Opd} {z b : Nat} {d : Option Nat} {r : List COper} {κ : List KF} {Q : Fr → AH → Prop} {cs ys : List PV} {n m : Nat}
    (ha : Acc h (x.val s) z cs n) (hy : src h z (y.val s) = some (m, ys)) (hl : ys.length = m * z) (hlw : h.lo ≤ h.nx) (hr : roomOk (n + m) (b + 1) = true)
    (next : ∀ v h', Acc h' v z (cs ++ ys) (n + m) → Mv h (x.val s) h' v → WR T r κ (Fr.put s d v) h' Q) : WR T (⟨d, .app z b x y, none⟩ :: r) κ s h Q := by
  rw [WR_app]
  obtain ⟨hlen, ha⟩ := ha
  have hmono : ∀ k, k ≤ n + m → roomOk k (b + 1) = true := fun k hk => by
    simp only [roomOk, decide_eq_true_eq] at hr ⊢
    exact Nat.le_trans (Nat.mul_le_mul_right _ hk) hr
  cases m with
  | zero =>
    have hys : ys = [] := by simpa using hl
    subst hys
    rcases ha with ⟨e, rfl⟩ | ⟨i, e, hrow, hi, hlo⟩
    · simp only [evAp, evApp, evAppL, hy, e]
      exact next _ _ ⟨by simpa using hlen, .inl ⟨rfl, rfl⟩⟩ (by rw [e]; exact Mv.refl _ _)
    · simp only [evAp, evApp, evAppL, hy, e, lowOk_rf, hlo, decide_true, if_true]
      exact next _ _ ⟨by simpa using hlen, .inr ⟨i, rfl, by simpa using hrow, hi, hlo⟩⟩ (by rw [e]; exact Mv.refl _ _)
  | succ m =>
    rcases ha with ⟨e, rfl⟩ | ⟨i, e, hrow, hi, hlo⟩
    · have hcs : cs = [] := by simpa using hlen
      subst hcs
      have h1 := hmono (m + 1) (by omega)
      simp only [evAp, evApp, evAppL, hy, e, lowOk_emp, h1, opH_some]
      rw [if_pos trivial, if_pos trivial, opH_some]
      refine next _ _ ⟨by simp [hl], .inr ⟨h.nx, by rw [Nat.zero_add], by simp, by simp, hlw⟩⟩ ⟨⟨Nat.le_succ _, rfl, fun j hj _ => by simp; omega⟩, .inr (.inr ⟨_, _, _, _, rfl, Nat.le_refl _⟩)⟩
    · simp only [evAp, evApp, evAppL, hy, e, lowOk_rf, hlo, decide_true, if_true, hrow]
      rw [if_pos ⟨trivial, by omega, hr⟩, opH_some]
      refine next _ _ ⟨by simp [hl, hlen, Nat.add_mul], .inr ⟨h.nx, rfl, ?_, by simp, ?_⟩⟩ ⟨⟨Nat.le_succ _, rfl, fun j hj hne => ?_⟩, .inr (.inr ⟨_, _, _, _, rfl, Nat.le_refl _⟩)⟩
      · simp [← hlen]
      · simp; omega
      · rw [blk_push, if_neg (by rw [nx_del]; omega), blk_del, if_neg (fun hji => hne z 0 n (by rw [hji]; exact e))]
end Go.Ev

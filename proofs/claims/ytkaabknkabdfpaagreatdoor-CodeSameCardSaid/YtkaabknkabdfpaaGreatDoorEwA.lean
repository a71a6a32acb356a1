/- Stepping through code by rewriting: what is still to be done lies in a list of frames, and every rule names what one operation does. -/
import Derived.Test.YtkaabknkabdfpaaGreatDoorLibB
set_option linter.unusedVariables false
set_option linter.unusedSimpArgs false
namespace Go.Ev

inductive KF where
  | seq (b : CCode)
  | block (id : Nat)
  | loop (c : CCode)
  | abs (P : EX → Fr → AH → Prop)

variable {T : Nat → Option Fun}

def kQ (T : Nat → Option Fun) (Q : Fr → AH → Prop) : List KF → EX → Fr → AH → Prop
  | [], e, s, h => match e with
    | .exit _ => False
    | _ => Q s h
  | .seq b :: κ, e, s, h => match e with
    | .nrm => WC T b s h (kQ T Q κ)
    | e => kQ T Q κ e s h
  | .block id :: κ, e, s, h => match e with
    | .exit i => if i = id then kQ T Q κ .nrm s h else kQ T Q κ (.exit i) s h
    | e => kQ T Q κ e s h
  | .loop c :: κ, e, s, h => match e with
    | .nrm => WC T (.loop c) s h (kQ T Q κ)
    | e => kQ T Q κ e s h
  | .abs P :: κ, e, s, h => match e with
    | .ret => kQ T Q κ .ret s h
    | e => P e s h

/-- Code, then what is still to be done, ends with Q. -/
def WK (T : Nat → Option Fun) (c : CCode) (κ : List KF) (s : Fr) (h : AH) (Q : Fr → AH → Prop) : Prop := WC T c s h (kQ T Q κ)
/-- Operations, then what is still to be done. -/
def WR (T : Nat → Option Fun) (ops : List COper) (κ : List KF) (s : Fr) (h : AH) (Q : Fr → AH → Prop) : Prop := WO T ops s h (kQ T Q κ .nrm)

theorem kQ_ret (Q : Fr → AH → Prop) (κ : List KF) (s : Fr) (h : AH) : kQ T Q κ .ret s h = Q s h := by
  induction κ with
  | nil => rfl
  | cons f κ ih => cases f <;> exact ih

variable {κ : List KF} {s : Fr} {h : AH} {Q : Fr → AH → Prop}

theorem WC_ext {c : CCode} {P P' : EX → Fr → AH → Prop} (hp : ∀ e s h, P e s h = P' e s h) : WC T c s h P = WC T c s h P' := by
  have : P = P' := by funext e s h; exact hp e s h
  rw [this]

@[simp ↓] theorem WK_ret : WK T .ret κ s h Q = Q s h := by rw [WK, WC_ret, kQ_ret]
@[simp ↓] theorem WK_skip_nil : WK T .skip [] s h Q = Q s h := by rw [WK, WC_skip]; rfl
@[simp ↓] theorem WK_skip_seq {b : CCode} : WK T .skip (.seq b :: κ) s h Q = WK T b κ s h Q := by rw [WK, WC_skip]; rfl
@[simp ↓] theorem WK_skip_block {i : Nat} : WK T .skip (.block i :: κ) s h Q = WK T .skip κ s h Q := by rw [WK, WC_skip, WK, WC_skip]; rfl
@[simp ↓] theorem WK_skip_loop {c : CCode} : WK T .skip (.loop c :: κ) s h Q = WK T (.loop c) κ s h Q := by rw [WK, WC_skip]; rfl
@[simp ↓] theorem WK_skip_abs {P : EX → Fr → AH → Prop} : WK T .skip (.abs P :: κ) s h Q = P .nrm s h := by rw [WK, WC_skip]; rfl
@[simp ↓] theorem WK_exit_abs {P : EX → Fr → AH → Prop} {i : Nat} : WK T (.exit i) (.abs P :: κ) s h Q = P (.exit i) s h := by rw [WK, WC_exit]; rfl
@[simp ↓] theorem WK_exit_seq {b : CCode} {i : Nat} : WK T (.exit i) (.seq b :: κ) s h Q = WK T (.exit i) κ s h Q := by rw [WK, WC_exit, WK, WC_exit]; rfl
@[simp ↓] theorem WK_exit_loop {b : CCode} {i : Nat} : WK T (.exit i) (.loop b :: κ) s h Q = WK T (.exit i) κ s h Q := by rw [WK, WC_exit, WK, WC_exit]; rfl
@[simp ↓] theorem WK_exit_block {i j : Nat} : WK T (.exit i) (.block j :: κ) s h Q = if i = j then WK T .skip κ s h Q else WK T (.exit i) κ s h Q := by
  rw [WK, WC_exit, WK, WC_skip, WK, WC_exit]; rfl
@[simp ↓] theorem WK_seq {a b : CCode} : WK T (.seq a b) κ s h Q = WK T a (.seq b :: κ) s h Q := by
  rw [WK, WC_seq, WK]
  exact WC_ext fun e s h => by cases e <;> rfl
@[simp ↓] theorem WK_block {i : Nat} {c : CCode} : WK T (.block i c) κ s h Q = WK T c (.block i :: κ) s h Q := by
  rw [WK, WC_block, WK]
  exact WC_ext fun e s h => by cases e <;> rfl
@[simp ↓] theorem WK_reg {ops : List COper} : WK T (.reg ops) κ s h Q = WR T ops κ s h Q := by rw [WK, WC_reg, WR]
@[simp ↓] theorem WR_nil : WR T [] κ s h Q = WK T .skip κ s h Q := by rw [WR, WO_nil, WK, WC_skip]

/-- Put the known bool into a slot whose value it is. -/
def Fr.know (s : Fr) (t : Nat) (b : Bool) : Fr := fun k => if k = t then .bool b else s k
theorem Fr.know_eq {t : Nat} {b : Bool} (e : s t = .bool b) : s.know t b = s := by
  funext k
  unfold Fr.know
  split
  · rename_i hk; rw [hk, e]
  · rfl

/-- Two ways on, by a value; all is data, so that no way is looked at before the value is known. -/
def condS (T : Nat → Option Fun) (v : PV) (t : Nat) (a b : CCode) (κ : List KF) (s : Fr) (h : AH) (Q : Fr → AH → Prop) : Prop :=
  condQ v (WK T a κ (s.know t true) h Q) (WK T b κ (s.know t false) h Q)
@[congr] theorem condS_congr {v v' : PV} {t : Nat} {a b : CCode} (e : v = v') : condS T v t a b κ s h Q = condS T v' t a b κ s h Q := by rw [e]
@[simp] theorem condS_true {t : Nat} {a b : CCode} : condS T (.bool true) t a b κ s h Q = WK T a κ (s.know t true) h Q := rfl
@[simp] theorem condS_false {t : Nat} {a b : CCode} : condS T (.bool false) t a b κ s h Q = WK T b κ (s.know t false) h Q := rfl
theorem condS_split {c : Bool} {t : Nat} {a b : CCode} (h1 : c = true → WK T a κ (s.know t true) h Q) (h2 : c = false → WK T b κ (s.know t false) h Q) : condS T (.bool c) t a b κ s h Q := by
  cases c
  · exact h2 rfl
  · exact h1 rfl
@[simp ↓] theorem WK_cond_c {v : PV} {a b : CCode} : WK T (.cond (.c v) a b) κ s h Q = condQ v (WK T a κ s h Q) (WK T b κ s h Q) := by
  rw [WK, WC_cond]; rfl
@[simp ↓] theorem WK_cond_t {t : Nat} {a b : CCode} : WK T (.cond (.t t) a b) κ s h Q = condS T (s t) t a b κ s h Q := by
  rw [WK, WC_cond]
  show condQ (s t) _ _ = condQ (s t) _ _
  unfold condQ
  split
  · rename_i e; rw [Fr.know_eq e]; rfl
  · rename_i e; rw [Fr.know_eq e]; rfl
  · rfl

/-- An operation under a guard. -/
def gdS (T : Nat → Option Fun) (w : Bool) (v : PV) (t : Nat) (d : Option Nat) (o : COp) (r : List COper) (κ : List KF) (s : Fr) (h : AH) (Q : Fr → AH → Prop) : Prop :=
  match v with
  | .bool b => if b = w then WR T (⟨d, o, none⟩ :: r) κ (s.know t w) h Q else WR T r κ (Fr.put (s.know t (!w)) d .undef) h Q
  | _ => WR T r κ (Fr.put s d .undef) h Q
section
variable {w : Bool} {t : Nat} {d : Option Nat} {o : COp} {r : List COper}
@[congr] theorem gdS_congr {v v' : PV} (e : v = v') : gdS T w v t d o r κ s h Q = gdS T w v' t d o r κ s h Q := by rw [e]
@[simp] theorem gdS_tt : gdS T true (.bool true) t d o r κ s h Q = WR T (⟨d, o, none⟩ :: r) κ (s.know t true) h Q := rfl
@[simp] theorem gdS_tf : gdS T true (.bool false) t d o r κ s h Q = WR T r κ (Fr.put (s.know t false) d .undef) h Q := rfl
@[simp] theorem gdS_ft : gdS T false (.bool true) t d o r κ s h Q = WR T r κ (Fr.put (s.know t true) d .undef) h Q := rfl
@[simp] theorem gdS_ff : gdS T false (.bool false) t d o r κ s h Q = WR T (⟨d, o, none⟩ :: r) κ (s.know t false) h Q := rfl
@[simp] theorem gdS_undef : gdS T w .undef t d o r κ s h Q = WR T r κ (Fr.put s d .undef) h Q := rfl
theorem gdS_split {b : Bool} (h1 : b = w → WR T (⟨d, o, none⟩ :: r) κ (s.know t w) h Q) (h2 : b = (!w) → WR T r κ (Fr.put (s.know t (!w)) d .undef) h Q) : gdS T w (.bool b) t d o r κ s h Q := by
  cases b <;> cases w
  · exact h1 rfl
  · exact h2 rfl
  · exact h2 rfl
  · exact h1 rfl
@[simp ↓] theorem WR_guard : WR T (⟨d, o, some (t, w)⟩ :: r) κ s h Q = gdS T w (s t) t d o r κ s h Q := by
  rw [WR, WO_cons]
  by_cases hb : ∃ b, s t = .bool b
  · obtain ⟨b, hb⟩ := hb
    have hk := Fr.know_eq hb
    simp only [gdS, hb, WR, WO_cons]
    by_cases hw : b = w
    · subst hw
      rw [if_pos rfl, hk, if_pos (by simp [wants, hb]), if_pos (by rfl)]
    · have hw' : (!w) = b := by cases b <;> cases w <;> simp_all
      rw [if_neg hw, hw', hk, if_neg (by simp [wants, hb, hw])]
  · have : gdS T w (s t) t d o r κ s h Q = WR T r κ (Fr.put s d .undef) h Q := by
      cases hv : s t with
      | bool b => exact absurd ⟨b, hv⟩ hb
      | _ => rfl
    rw [this, if_neg]
    · rfl
    · simp only [wants]
      cases hv : s t with
      | bool b => exact absurd ⟨b, hv⟩ hb
      | _ => simp
end

/-- A value that an operation gives, the heap as it was. -/
def opV (T : Nat → Option Fun) (r : Option PV) (d : Option Nat) (ops : List COper) (κ : List KF) (s : Fr) (h : AH) (Q : Fr → AH → Prop) : Prop :=
  match r with
  | some v => WR T ops κ (Fr.put s d v) h Q
  | none => False
@[congr] theorem opV_congr {r r' : Option PV} {d : Option Nat} {ops : List COper} (e : r = r') : opV T r d ops κ s h Q = opV T r' d ops κ s h Q := by rw [e]
@[simp] theorem opV_some {v : PV} {d : Option Nat} {ops : List COper} : opV T (some v) d ops κ s h Q = WR T ops κ (Fr.put s d v) h Q := rfl
/-- A value and a heap that an operation gives. -/
def opH (T : Nat → Option Fun) (r : Option (PV × AH)) (d : Option Nat) (ops : List COper) (κ : List KF) (s : Fr) (Q : Fr → AH → Prop) : Prop :=
  match r with
  | some (v, h) => WR T ops κ (Fr.put s d v) h Q
  | none => False
@[congr] theorem opH_congr {r r' : Option (PV × AH)} {d : Option Nat} {ops : List COper} (e : r = r') : opH T r d ops κ s Q = opH T r' d ops κ s Q := by rw [e]
@[simp] theorem opH_some {v : PV} {d : Option Nat} {ops : List COper} : opH T (some (v, h)) d ops κ s Q = WR T ops κ (Fr.put s d v) h Q := rfl

def noCall : Nat → List PV → AH → Option (PV × AH) := fun _ _ _ => none

theorem WR_cons {d : Option Nat} {o : COp} {r : List COper} : WR T (⟨d, o, none⟩ :: r) κ s h Q = W1 T o s h (fun v h' => WR T r κ (Fr.put s d v) h' Q) := by
  rw [WR, WO_cons]; rfl

theorem WR_op {d : Option Nat} {o : COp} {r : List COper} (hp : ∀ call call', evOp call o s h = evOp call' o s h) :
    WR T (⟨d, o, none⟩ :: r) κ s h Q = opH T (evOpB noCall o s h) d r κ s Q := by
  rw [WR_cons, W1_op hp]
  show opQ (evOpB noCall o s h) _ = _
  cases evOpB noCall o s h <;> rfl

theorem WR_keep {d : Option Nat} {o : COp} {r : List COper} {x : Option PV} (hp : ∀ call, evOpB call o s h = keep h x) :
    WR T (⟨d, o, none⟩ :: r) κ s h Q = opV T x d r κ s h Q := by
  have hq : ∀ call, evOp call o s h = keep h x ∨ barOk o s h = false := fun call => by
    have := hp call
    unfold evOpB at this
    split at this
    · exact .inl this
    · rename_i hb; right; simpa using hb
  have : WR T (⟨d, o, none⟩ :: r) κ s h Q = opH T (evOpB noCall o s h) d r κ s Q := by
    rw [WR_cons]
    apply propext
    constructor
    · rintro ⟨n, v, h', e, q⟩
      rw [hp] at e ⊢
      rw [e]; exact q
    · intro q
      cases e : evOpB noCall o s h with
      | none => rw [e] at q; exact q.elim
      | some p => rw [e] at q; exact ⟨0, p.1, p.2, by rw [hp] at e ⊢; exact e, q⟩
  rw [this, hp]
  cases x <;> rfl

section
variable {d : Option Nat} {r : List COper}
@[simp ↓] theorem WR_mov {x : Opd} : WR T (⟨d, .mov x, none⟩ :: r) κ s h Q = opV T (some (x.val s)) d r κ s h Q := WR_keep fun _ => rfl
@[simp ↓] theorem WR_bin {op : BinOp} {x y : Opd} : WR T (⟨d, .bin op x y, none⟩ :: r) κ s h Q = opV T (evBin op (x.val s) (y.val s)) d r κ s h Q := WR_keep fun _ => rfl
@[simp ↓] theorem WR_un {op : UnOp} {x : Opd} : WR T (⟨d, .un op x, none⟩ :: r) κ s h Q = opV T (evUn op (x.val s)) d r κ s h Q := WR_keep fun _ => rfl
@[simp ↓] theorem WR_fld {k : Nat} {x : Opd} : WR T (⟨d, .fld k x, none⟩ :: r) κ s h Q = opV T (evFld k (x.val s)) d r κ s h Q := WR_keep fun _ => rfl
@[simp ↓] theorem WR_load {n : Nat} {a : Opd} : WR T (⟨d, .load true n a, none⟩ :: r) κ s h Q = opV T ((rds h (a.val s) n).map .agg) d r κ s h Q := WR_keep fun _ => rfl
@[simp ↓] theorem WR_load1 {n : Nat} {a : Opd} : WR T (⟨d, .load false n a, none⟩ :: r) κ s h Q = opV T (rd1 h (a.val s)) d r κ s h Q := WR_keep fun _ => rfl
def evPick (c a b : PV) : Option PV := match c with
  | .bool true => some a
  | .bool false => some b
  | _ => none
@[simp] theorem evPick_true (a b : PV) : evPick (.bool true) a b = some a := rfl
@[simp] theorem evPick_false (a b : PV) : evPick (.bool false) a b = some b := rfl
@[simp ↓] theorem WR_pick {c a b : Opd} : WR T (⟨d, .pick c a b, none⟩ :: r) κ s h Q = opV T (evPick (c.val s) (a.val s) (b.val s)) d r κ s h Q := WR_keep fun call => by
  show (evOp call (.pick c a b) s h) = _
  simp only [evOp]
  split
  · rename_i t e; cases t <;> simp [e, keep]
  · rename_i e; cases hc : c.val s <;> simp_all [evPick, keep]
@[simp ↓] theorem WR_len {k : Nat} {x : Opd} : WR T (⟨d, .len k x, none⟩ :: r) κ s h Q = opV T (evLen h k (x.val s)) d r κ s h Q := WR_keep fun _ => rfl
def evIx (z : Nat) (x i : PV) : Option PV := match i with
  | .int _ i => evIdx z x i
  | _ => none
@[simp] theorem evIx_int (z : Nat) (x : PV) (k : IntKind) (i : Int) : evIx z x (.int k i) = evIdx z x i := rfl
@[simp ↓] theorem WR_idx {z : Nat} {x i : Opd} : WR T (⟨d, .idx z x i, none⟩ :: r) κ s h Q = opV T (evIx z (x.val s) (i.val s)) d r κ s h Q := WR_keep fun _ => rfl
def evAlloc (h : AH) (zs : List PV) : Option (PV × AH) := some (.pt h.nx 0, h.push (.cells zs))
@[simp] theorem evAlloc_eq {zs : List PV} : evAlloc h zs = some (.pt h.nx 0, h.push (.cells zs)) := rfl
@[simp ↓] theorem WR_alloc {zs : List PV} : WR T (⟨d, .alloc zs, none⟩ :: r) κ s h Q = opH T (evAlloc h zs) d r κ s Q := WR_op fun _ _ => rfl
def evBox (h : AH) (v : PV) : Option (PV × AH) := if v.okc = true then some (.pt h.nx 0, h.push (.cells v.cells)) else none
@[simp ↓] theorem WR_box {x : Opd} : WR T (⟨d, .box x, none⟩ :: r) κ s h Q = opH T (evBox h (x.val s)) d r κ s Q := WR_op fun _ _ => rfl
def evBoxN (h : AH) (n : Nat) (v : PV) : Option (PV × AH) := if v.okc = true ∧ v.cells.length = n then some (.pt h.nx 0, h.push (.cells v.cells)) else none
@[simp ↓] theorem WR_boxN {n : Nat} {x : Opd} : WR T (⟨d, .boxN n x, none⟩ :: r) κ s h Q = opH T (evBoxN h n (x.val s)) d r κ s Q := WR_op fun _ _ => rfl
def evBoxi (v : PV) : Option PV := if v.okc = true then some (.pi v.cells) else none
@[simp ↓] theorem WR_boxi {x : Opd} : WR T (⟨d, .boxi x, none⟩ :: r) κ s h Q = opV T (evBoxi (x.val s)) d r κ s h Q := WR_keep fun call => by
  show (evOp call (.boxi x) s h) = _
  simp only [evOp, evBoxi]
  split <;> rfl
/-- A write, behind the bar. -/
def evWr (h : AH) (p v : PV) (n : Nat) : Option (PV × AH) := if lowOk h p = true then (wr h p v n).map fun h' => (.undef, h') else none
@[simp ↓] theorem WR_store {n : Nat} {a x : Opd} : WR T (⟨d, .store n a x, none⟩ :: r) κ s h Q = opH T (evWr h (a.val s) (x.val s) n) d r κ s Q := by
  rw [WR_op fun _ _ => rfl]
  congr 1
  show (if lowOk h (a.val s) = true then _ else _) = _
  unfold evWr
  split
  · show (match wr h (a.val s) (x.val s) n with | some h' => some (PV.undef, h') | none => none) = _
    cases wr h (a.val s) (x.val s) n <;> rfl
  · rfl
def evPut (h : AH) (kd : Nat) (m k v : PV) : Option (PV × AH) := if lowOk h m = true then evUpd h kd m k v else none
@[simp ↓] theorem WR_upd {kd : Nat} {m k v : Opd} : WR T (⟨d, .upd kd m k v, none⟩ :: r) κ s h Q = opH T (evPut h kd (m.val s) (k.val s) (v.val s)) d r κ s Q := by
  rw [WR_op fun _ _ => rfl]
  rfl
def evDl (h : AH) (kd : Nat) (m k : PV) : Option (PV × AH) := if lowOk h m = true then evDel h kd m k else none
@[simp ↓] theorem WR_del {kd : Nat} {m k : Opd} : WR T (⟨d, .del kd m k, none⟩ :: r) κ s h Q = opH T (evDl h kd (m.val s) (k.val s)) d r κ s Q := by
  rw [WR_op fun _ _ => rfl]
  rfl
def evAp (h : AH) (z bytes : Nat) (x y : PV) : Option (PV × AH) := if lowOk h x = true then evApp h z bytes x y else none
@[simp ↓] theorem WR_app {z b : Nat} {x y : Opd} : WR T (⟨d, .app z b x y, none⟩ :: r) κ s h Q = opH T (evAp h z b (x.val s) (y.val s)) d r κ s Q := by
  rw [WR_op fun _ _ => rfl]
  rfl
def evClr (h : AH) (z : Nat) (zs : List PV) (x : PV) : Option (PV × AH) := if lowOk h x = true then evClear h z zs x else none
@[simp ↓] theorem WR_clear {z : Nat} {zs : List PV} {x : Opd} : WR T (⟨d, .clear z zs x, none⟩ :: r) κ s h Q = opH T (evClr h z zs (x.val s)) d r κ s Q := by
  rw [WR_op fun _ _ => rfl]
  rfl
@[simp ↓] theorem WR_lkp {kd : Nat} {z : PV} {ok : Bool} {m k : Opd} : WR T (⟨d, .lkp kd z ok m k, none⟩ :: r) κ s h Q = opV T (evLkp h kd z ok (m.val s) (k.val s)) d r κ s h Q := WR_keep fun _ => rfl
def evExt (x : PV) (i : Nat) : Option PV := match x with
  | .tup vs => vs[i]?
  | _ => none
@[simp] theorem evExt_tup (vs : List PV) (i : Nat) : evExt (.tup vs) i = vs[i]? := rfl
@[simp ↓] theorem WR_ext {x : Opd} {i : Nat} : WR T (⟨d, .ext x i, none⟩ :: r) κ s h Q = opV T (evExt (x.val s) i) d r κ s h Q := WR_keep fun _ => rfl
def evEqs (neg : Bool) (ks : List Nat) (x y : PV) : Option PV := match x, y with
  | .agg a, .agg b => (cellsEq ks a b).map fun t => .bool (t != neg)
  | _, _ => none
@[simp] theorem evEqs_agg (neg : Bool) (ks : List Nat) (a b : List PV) : evEqs neg ks (.agg a) (.agg b) = (cellsEq ks a b).map fun t => .bool (t != neg) := rfl
@[simp ↓] theorem WR_eqs {g : Bool} {ks : List Nat} {x y : Opd} : WR T (⟨d, .eqs g ks x y, none⟩ :: r) κ s h Q = opV T (evEqs g ks (x.val s) (y.val s)) d r κ s h Q := WR_keep fun _ => rfl
def evEqb (neg : Bool) (x y : PV) : Option PV := match x, y with
  | .bool a, .bool b => some (.bool ((a == b) != neg))
  | _, _ => none
@[simp] theorem evEqb_bool (neg : Bool) (a b : Bool) : evEqb neg (.bool a) (.bool b) = some (.bool ((a == b) != neg)) := rfl
@[simp ↓] theorem WR_eqb {g : Bool} {x y : Opd} : WR T (⟨d, .eqb g x y, none⟩ :: r) κ s h Q = opV T (evEqb g (x.val s) (y.val s)) d r κ s h Q := WR_keep fun _ => rfl
@[simp ↓] theorem WR_isnil {g : Bool} {k : Nat} {x : Opd} : WR T (⟨d, .isnil g k x, none⟩ :: r) κ s h Q = opV T ((isNilK k (x.val s)).map fun t => .bool (t != g)) d r κ s h Q := WR_keep fun _ => rfl
def evConv (k : IntKind) (x : PV) : Option PV := match x with
  | .int _ n => some (.int k (k.wrap n))
  | _ => none
@[simp] theorem evConv_int (k k' : IntKind) (n : Int) : evConv k (.int k' n) = some (.int k (k.wrap n)) := rfl
@[simp ↓] theorem WR_conv {k : IntKind} {x : Opd} : WR T (⟨d, .conv k x, none⟩ :: r) κ s h Q = opV T (evConv k (x.val s)) d r κ s h Q := WR_keep fun _ => rfl
def evStr (x : PV) : Option PV := match x with
  | .str b => some (.str b)
  | _ => none
@[simp] theorem evStr_str (b : ByteArray) : evStr (.str b) = some (.str b) := rfl
@[simp ↓] theorem WR_str {x : Opd} : WR T (⟨d, .str x, none⟩ :: r) κ s h Q = opV T (evStr (x.val s)) d r κ s h Q := WR_keep fun _ => rfl
@[simp ↓] theorem WR_mkfn {f : Nat} {fs cs : List Opd} : WR T (⟨d, .mkfn f fs cs, none⟩ :: r) κ s h Q = opV T (some (.fn f (fs.map (Opd.val s)) (cs.map (Opd.val s)))) d r κ s h Q := WR_keep fun _ => rfl
def evMkmap (h : AH) : Option (PV × AH) := some (.mp h.nx, h.push (.map []))
@[simp] theorem evMkmap_eq : evMkmap h = some (.mp h.nx, h.push (.map [])) := rfl
@[simp ↓] theorem WR_mkmap : WR T (⟨d, .mkmap, none⟩ :: r) κ s h Q = opH T (evMkmap h) d r κ s Q := WR_op fun _ _ => rfl
def evMks (h : AH) (z bytes : Nat) (zs : List PV) (l c : PV) : Option (PV × AH) := match l, c with
  | .int .i64 l, .int .i64 c => if 0 ≤ l ∧ l ≤ c ∧ roomOk c.toNat (bytes + 1) = true then some (.rf z h.nx 0 l.toNat, h.push (.cells (List.replicate l.toNat zs).flatten)) else none
  | _, _ => none
@[simp ↓] theorem WR_mkslice {z b : Nat} {zs : List PV} {l c : Opd} : WR T (⟨d, .mkslice z b zs l c, none⟩ :: r) κ s h Q = opH T (evMks h z b zs (l.val s) (c.val s)) d r κ s Q := WR_op fun _ _ => rfl
/-- Blocks set aside. -/
def _root_.Go.Ev.AH.resv (h : AH) (m : Nat) : AH := ⟨h.nx + m, h.lo, h.blk, h.ty⟩
@[simp] theorem resv_nx {m : Nat} : (h.resv m).nx = h.nx + m := rfl
@[simp] theorem resv_lo {m : Nat} : (h.resv m).lo = h.lo := rfl
@[simp] theorem resv_blk {m : Nat} : (h.resv m).blk = h.blk := rfl
@[simp] theorem resv_row {m i : Nat} : (h.resv m).row i = h.row i := rfl
@[simp ↓] theorem WR_resv {m : Nat} : WR T (⟨d, .resv m, none⟩ :: r) κ s h Q = WR T r κ (Fr.put s d .undef) (h.resv m) Q := by
  rw [WR_op fun _ _ => rfl]; rfl
def evMksR (h : AH) (k z bytes : Nat) (zs : List PV) (l c : PV) : Option (PV × AH) := match l, c with
  | .int .i64 l, .int .i64 c => if (0 ≤ l ∧ l ≤ c ∧ roomOk c.toNat (bytes + 1) = true) ∧ (k < h.nx ∧ h.lo ≤ h.nx - 1 - k ∧ (h.blk (h.nx - 1 - k)).isNone = true) then
      some (.rf z (h.nx - 1 - k) 0 l.toNat, h.set (h.nx - 1 - k) (.cells (List.replicate l.toNat zs).flatten)) else none
  | _, _ => none
@[simp ↓] theorem WR_mksliceR {k z b : Nat} {zs : List PV} {l c : Opd} : WR T (⟨d, .mksliceR k z b zs l c, none⟩ :: r) κ s h Q = opH T (evMksR h k z b zs (l.val s) (c.val s)) d r κ s Q := WR_op fun _ _ => rfl
def evMksI (z bytes : Nat) (zs : List PV) (l c : PV) : Option PV := match l, c with
  | .int .i64 l, .int .i64 c => if 0 ≤ l ∧ l ≤ c ∧ roomOk c.toNat (bytes + 1) = true then some (.sl l.toNat (List.replicate l.toNat zs).flatten) else none
  | _, _ => none
@[simp ↓] theorem WR_mkslI {z b : Nat} {zs : List PV} {l c : Opd} : WR T (⟨d, .mkslI z b zs l c, none⟩ :: r) κ s h Q = opV T (evMksI z b zs (l.val s) (c.val s)) d r κ s h Q := WR_keep fun call => by
  show (evOp call (.mkslI z b zs l c) s h) = _
  simp only [evOp]
  congr 1
def evLoadi (agg : Bool) (n : Nat) (x : PV) : Option PV := match x with
  | .pi cs => if agg then (rds AH.zero (.pi cs) n).map .agg else rd1 AH.zero (.pi cs)
  | _ => none
@[simp] theorem evLoadi_t (n : Nat) (cs : List PV) : evLoadi true n (.pi cs) = (rds AH.zero (.pi cs) n).map .agg := rfl
@[simp] theorem evLoadi_f (n : Nat) (cs : List PV) : evLoadi false n (.pi cs) = rd1 AH.zero (.pi cs) := rfl
@[simp ↓] theorem WR_loadi {g : Bool} {n : Nat} {a : Opd} : WR T (⟨d, .loadi g n a, none⟩ :: r) κ s h Q = opV T (evLoadi g n (a.val s)) d r κ s h Q := WR_keep fun call => by
  show (evOp call (.loadi g n a) s h) = _
  simp only [evOp]
  congr 1
@[simp] theorem blkOf_pt {i o : Nat} : blkOf (.pt i o) = some i := rfl
@[simp] theorem blkOf_mp {i : Nat} : blkOf (.mp i) = some i := rfl
@[simp] theorem blkOf_rf {z i o n : Nat} : blkOf (.rf z i o n) = some i := rfl
@[simp] theorem blkOf_pi {cs : List PV} : blkOf (.pi cs) = none := rfl
@[simp] theorem blkOf_emp : blkOf .emp = none := rfl
@[simp] theorem blkOf_nilp : blkOf .nilp = none := rfl
@[simp] theorem sepOk_pt {ts : List Nat} {i o : Nat} : sepOk s ts (.pt i o) = ts.all fun t => !(blkOf (s t) == some i) := rfl
@[simp] theorem sepOk_rf {ts : List Nat} {z i o n : Nat} : sepOk s ts (.rf z i o n) = ts.all fun t => !(blkOf (s t) == some i) := rfl
@[simp] theorem sepOk_emp {ts : List Nat} : sepOk s ts .emp = true := rfl
/-- A write, apart from what is loaded beside it. -/
def sepG (s : Fr) (ts : List Nat) (x : PV) (R : Prop) : Prop := sepOk s ts x = true ∧ R
@[congr] theorem sepG_congr {ts : List Nat} {x x' : PV} {R : Prop} (e : x = x') : sepG s ts x R = sepG s ts x' R := by rw [e]
@[simp] theorem sepG_eq {ts : List Nat} {i o : Nat} {R : Prop} : sepG s ts (.pt i o) R = ((ts.all fun t => !(blkOf (s t) == some i)) = true ∧ R) := rfl
@[simp] theorem sepG_rf {ts : List Nat} {z i o n : Nat} {R : Prop} : sepG s ts (.rf z i o n) R = ((ts.all fun t => !(blkOf (s t) == some i)) = true ∧ R) := rfl
@[simp] theorem sepG_emp {ts : List Nat} {R : Prop} : sepG s ts .emp R = R := by
  unfold sepG; simp
@[simp ↓] theorem WR_storeS {ts : List Nat} {n : Nat} {a x : Opd} : WR T (⟨d, .storeS ts n a x, none⟩ :: r) κ s h Q = sepG s ts (a.val s) (opH T (evWr h (a.val s) (x.val s) n) d r κ s Q) := by
  rw [WR_op fun _ _ => rfl]
  unfold sepG
  by_cases hq : sepOk s ts (a.val s) = true
  · simp only [hq, true_and]
    congr 1
    show (if lowOk h (a.val s) = true then (if sepOk s ts (a.val s) = true then _ else _) else _) = _
    rw [if_pos hq]
    unfold evWr
    split
    · show (match wr h (a.val s) (x.val s) n with | some h' => some (PV.undef, h') | none => none) = _
      cases wr h (a.val s) (x.val s) n <;> rfl
    · rfl
  · have : evOpB noCall (.storeS ts n a x) s h = none := by
      show (if lowOk h (a.val s) = true then (if sepOk s ts (a.val s) = true then _ else _) else _) = none
      rw [if_neg hq]; split <;> rfl
    rw [this]
    apply propext
    exact ⟨fun q => q.elim, fun q => absurd q.1 hq⟩
@[simp ↓] theorem WR_appS {ts : List Nat} {z b : Nat} {x y : Opd} : WR T (⟨d, .appS ts z b x y, none⟩ :: r) κ s h Q = sepG s ts (x.val s) (opH T (evAp h z b (x.val s) (y.val s)) d r κ s Q) := by
  rw [WR_op fun _ _ => rfl]
  unfold sepG
  by_cases hq : sepOk s ts (x.val s) = true
  · simp only [hq, true_and]
    congr 1
    show (if lowOk h (x.val s) = true then (if sepOk s ts (x.val s) = true then _ else _) else _) = _
    rw [if_pos hq]; rfl
  · have : evOpB noCall (.appS ts z b x y) s h = none := by
      show (if lowOk h (x.val s) = true then (if sepOk s ts (x.val s) = true then _ else _) else _) = none
      rw [if_neg hq]; split <;> rfl
    rw [this]
    apply propext
    exact ⟨fun q => q.elim, fun q => absurd q.1 hq⟩
@[simp ↓] theorem WR_slice {z : Nat} {x : Opd} {lo hi mx : Option Opd} : WR T (⟨d, .slice z x lo hi mx, none⟩ :: r) κ s h Q = opV T (evSlice z (x.val s) (lo.map (Opd.val s)) (hi.map (Opd.val s)) (mx.map (Opd.val s))) d r κ s h Q := WR_keep fun _ => rfl
@[simp ↓] theorem WR_slstr {x : Opd} {lo hi : Option Opd} : WR T (⟨d, .slstr x lo hi, none⟩ :: r) κ s h Q = opV T (evSlstr (x.val s) (lo.map (Opd.val s)) (hi.map (Opd.val s))) d r κ s h Q := WR_keep fun _ => rfl
def evFldv (agg : Bool) (off n : Nat) (x : PV) : Option PV := match x with
  | .agg cs => partP agg cs off n
  | _ => none
@[simp] theorem evFldv_agg (agg : Bool) (off n : Nat) (cs : List PV) : evFldv agg off n (.agg cs) = partP agg cs off n := rfl
@[simp ↓] theorem WR_fldv {g : Bool} {k n : Nat} {x : Opd} : WR T (⟨d, .fldv g k n x, none⟩ :: r) κ s h Q = opV T (evFldv g k n (x.val s)) d r κ s h Q := WR_keep fun _ => rfl
def evIxp (len z : Nat) (x i : PV) : Option PV := match i with
  | .int _ i => if 0 ≤ i ∧ i < len then evFld (i.toNat * z) x else none
  | _ => none
@[simp ↓] theorem WR_idxp {l z : Nat} {x i : Opd} : WR T (⟨d, .idxp l z x i, none⟩ :: r) κ s h Q = opV T (evIxp l z (x.val s) (i.val s)) d r κ s h Q := WR_keep fun _ => rfl
def evIxv (agg : Bool) (len z : Nat) (x i : PV) : Option PV := match x, i with
  | .agg cs, .int _ i => if 0 ≤ i ∧ i < len then partP agg cs (i.toNat * z) z else none
  | _, _ => none
@[simp ↓] theorem WR_idxv {g : Bool} {l z : Nat} {x i : Opd} : WR T (⟨d, .idxv g l z x i, none⟩ :: r) κ s h Q = opV T (evIxv g l z (x.val s) (i.val s)) d r κ s h Q := WR_keep fun _ => rfl
def evIxs (x i : PV) : Option PV := match x, i with
  | .str b, .int _ i => if 0 ≤ i then match b[i.toNat]? with
    | some c => some (.int .u8 c.toNat)
    | .none => .none
    else .none
  | _, _ => none
@[simp ↓] theorem WR_idxs {x i : Opd} : WR T (⟨d, .idxs x i, none⟩ :: r) κ s h Q = opV T (evIxs (x.val s) (i.val s)) d r κ s h Q := WR_keep fun _ => rfl
def evBlit (n : Nat) (zs : List PV) (ps : List (Nat × Nat × PV)) : Option PV := (fillP zs ps).map fun cs => if n = 0 then .emp else .sl n cs
@[simp ↓] theorem WR_blit {n : Nat} {zs : List PV} {ps : List (Nat × Nat × Opd)} : WR T (⟨d, .blit n zs ps, none⟩ :: r) κ s h Q = opV T (evBlit n zs (ps.map fun p => (p.1, p.2.1, p.2.2.val s))) d r κ s h Q := WR_keep fun _ => rfl
def evBsl (h : AH) (z n : Nat) (r : Option (List PV)) : Option (PV × AH) := match r with
  | some cs => some (.rf z h.nx 0 n, h.push (.cells cs))
  | .none => .none
@[simp] theorem evBsl_some (z n : Nat) (cs : List PV) : evBsl h z n (some cs) = some (.rf z h.nx 0 n, h.push (.cells cs)) := rfl
@[simp ↓] theorem WR_bslice {z n : Nat} {zs : List PV} {ps : List (Nat × Nat × Opd)} : WR T (⟨d, .bslice z n zs ps, none⟩ :: r) κ s h Q = opH T (evBsl h z n (fillP zs (ps.map fun p => (p.1, p.2.1, p.2.2.val s)))) d r κ s Q := WR_op fun _ _ => rfl
@[simp ↓] theorem WR_build {zs : List PV} {ps : List (Nat × Nat × Opd)} : WR T (⟨d, .build zs ps, none⟩ :: r) κ s h Q = opV T ((fillP zs (ps.map fun p => (p.1, p.2.1, p.2.2.val s))).map .agg) d r κ s h Q := WR_keep fun _ => rfl
@[simp ↓] theorem WR_minmax {g : Bool} {xs : List Opd} : WR T (⟨d, .minmax g xs, none⟩ :: r) κ s h Q = opV T (evMM g (xs.map (Opd.val s))) d r κ s h Q := WR_keep fun _ => rfl
def evNilchk (x : PV) : Option PV := match isNil x with
  | some false => some x
  | _ => none
@[simp ↓] theorem WR_nilchk {x : Opd} : WR T (⟨d, .nilchk x, none⟩ :: r) κ s h Q = opV T (evNilchk (x.val s)) d r κ s h Q := WR_keep fun call => by
  show (evOp call (.nilchk x) s h) = _
  simp only [evOp, evNilchk]
  cases hx : isNil (x.val s) with
  | none => rfl
  | some b => cases b <;> rfl

/-- A call, then the rest. -/
def callK (T : Nat → Option Fun) (f : Nat) (as : List PV) (h : AH) (d : Option Nat) (ops : List COper) (κ : List KF) (s : Fr) (Q : Fr → AH → Prop) : Prop :=
  ∃ v h', CE T f as h v h' ∧ WR T ops κ (Fr.put s d v) h' Q
@[congr] theorem callK_congr {f : Nat} {as as' : List PV} (e : as = as') : callK T f as h d r κ s Q = callK T f as' h d r κ s Q := by rw [e]
@[simp ↓] theorem WR_call {f : Nat} {as : List Opd} : WR T (⟨d, .call f as, none⟩ :: r) κ s h Q = callK T f (as.map (Opd.val s)) h d r κ s Q := by
  rw [WR_cons, W1_call]; rfl
def callvK (T : Nat → Option Fun) (g : PV) (as : List PV) (h : AH) (d : Option Nat) (ops : List COper) (κ : List KF) (s : Fr) (Q : Fr → AH → Prop) : Prop :=
  match g with
  | .fn g fs cs => g < vb ∧ callK T g (fs ++ as ++ cs) h d ops κ s Q
  | .yl i => callK T (yb + i) as h d ops κ s Q
  | _ => False
@[congr] theorem callvK_congr {g g' : PV} {as as' : List PV} (e1 : g = g') (e2 : as = as') : callvK T g as h d r κ s Q = callvK T g' as' h d r κ s Q := by rw [e1, e2]
@[simp] theorem callvK_fn {g : Nat} {fs cs as : List PV} : callvK T (.fn g fs cs) as h d r κ s Q = (g < vb ∧ callK T g (fs ++ as ++ cs) h d r κ s Q) := rfl
@[simp] theorem callvK_yl {i : Nat} {as : List PV} : callvK T (.yl i) as h d r κ s Q = callK T (yb + i) as h d r κ s Q := rfl
def callpK (T : Nat → Option Fun) (k : Nat) (g : PV) (as : List PV) (h : AH) (d : Option Nat) (ops : List COper) (κ : List KF) (s : Fr) (Q : Fr → AH → Prop) : Prop :=
  match g with
  | .fn g [] [] => (g = k ∧ k < vb) ∧ callK T g as h d ops κ s Q
  | _ => False
@[congr] theorem callpK_congr {k : Nat} {g g' : PV} {as as' : List PV} (e1 : g = g') (e2 : as = as') : callpK T k g as h d r κ s Q = callpK T k g' as' h d r κ s Q := by rw [e1, e2]
@[simp] theorem callpK_fn {k g : Nat} {as : List PV} : callpK T k (.fn g [] []) as h d r κ s Q = ((g = k ∧ k < vb) ∧ callK T g as h d r κ s Q) := rfl
@[simp ↓] theorem WR_callp {k : Nat} {f : Opd} {as : List Opd} : WR T (⟨d, .callp k f as, none⟩ :: r) κ s h Q = callpK T k (f.val s) (as.map (Opd.val s)) h d r κ s Q := by
  rw [WR_cons]
  have key : ∀ n, evOpB (callW T (evC T n)) (.callp k f as) s h = match f.val s with
    | .fn g [] [] => if g = k ∧ k < vb then callW T (evC T n) k (as.map (Opd.val s)) h else none
    | _ => none := fun n => rfl
  unfold callpK
  split
  · rename_i g hf
    by_cases hg : g = k ∧ k < vb
    · obtain ⟨rfl, hv⟩ := hg
      rw [W1_callp hf hv]; simp only [hv, true_and]; rfl
    · apply propext
      constructor
      · rintro ⟨n, v, h', e, q⟩; rw [key, hf] at e; simp [hg] at e
      · intro q; exact absurd q.1 hg
  · rename_i hne
    apply propext
    constructor
    · rintro ⟨n, v, h', e, q⟩
      rw [key] at e
      split at e
      · rename_i g hf; exact absurd hf (hne g)
      · cases e
    · intro q; exact absurd q id
@[simp ↓] theorem WR_callv {f : Opd} {as : List Opd} : WR T (⟨d, .callv f as, none⟩ :: r) κ s h Q = callvK T (f.val s) (as.map (Opd.val s)) h d r κ s Q := by
  rw [WR_cons]
  have key : ∀ n, evOpB (callW T (evC T n)) (.callv f as) s h = match f.val s with
    | .fn g fs cs => if g < vb then callW T (evC T n) g (fs ++ as.map (Opd.val s) ++ cs) h else none
    | .yl i => callW T (evC T n) (yb + i) (as.map (Opd.val s)) h
    | _ => none := fun n => rfl
  unfold callvK
  split
  · rename_i g fs cs hf
    by_cases hg : g < vb
    · rw [W1_callv hf hg]; simp only [hg, true_and]; rfl
    · apply propext
      constructor
      · rintro ⟨n, v, h', e, q⟩; rw [key, hf] at e; simp [hg] at e
      · intro q; exact absurd q.1 hg
  · rename_i i hf
    rw [W1_cally hf]; rfl
  · rename_i hf hf2
    apply propext
    constructor
    · rintro ⟨n, v, h', e, q⟩; rw [key] at e; split at e
      · rename_i g fs cs hg; exact (hf _ _ _ hg).elim
      · rename_i i hg; exact (hf2 _ hg).elim
      · cases e
    · exact False.elim
end

theorem CE_det {f : Nat} {as : List PV} {v v' : PV} {h' h'' : AH} (e : CE T f as h v h') (e' : CE T f as h v' h'') : v = v' ∧ h' = h'' := by
  obtain ⟨n, e⟩ := e
  obtain ⟨m, e'⟩ := e'
  have e1 := callW_le (Nat.le_max_left n m) e
  have e2 := callW_le (Nat.le_max_right n m) e'
  rw [e1] at e2
  exact ⟨congrArg (·.1) (Option.some.inj e2), congrArg (·.2) (Option.some.inj e2)⟩

theorem callK_eq {f : Nat} {as : List PV} {v : PV} {h' : AH} {d : Option Nat} {r : List COper} (e : CE T f as h v h') :
    callK T f as h d r κ s Q = WR T r κ (Fr.put s d v) h' Q := by
  apply propext
  constructor
  · rintro ⟨v1, h1, e1, q⟩
    obtain ⟨rfl, rfl⟩ := CE_det e e1
    exact q
  · intro q; exact ⟨_, _, e, q⟩

/-- A pure call in two steps: the arguments' copies, then what the function makes of them. -/
def pureK (T : Nat → Option Fun) (f : Nat) (as : Option (List PV)) (o : Bool) (h : AH) (d : Option Nat) (ops : List COper) (κ : List KF) (s : Fr) (Q : Fr → AH → Prop) : Prop :=
  ∃ xs c r0 v, as = some xs ∧ T f = some (.code c) ∧ c.pure = true ∧
    WK T c.body [] (initFr xs) AH.zero (fun s' h1 => resOf c.res s' h1 = some r0 ∧ snap h1 snapDepth r0 = some v ∧ (o = false ∨ noImm h1 snapDepth r0 = true)) ∧ WR T ops κ (Fr.put s d v) h Q
@[congr] theorem pureK_congr {f : Nat} {as as' : Option (List PV)} {o o' : Bool} {d : Option Nat} {r : List COper} (e : as = as') (eo : o = o') : pureK T f as o h d r κ s Q = pureK T f as' o' h d r κ s Q := by rw [e, eo]

theorem callK_pure {f : Nat} {as : List PV} {d : Option Nat} {r : List COper} {c : CFun} (hf : T f = some (.code c)) (hp : c.pure = true) :
    callK T f as h d r κ s Q = pureK T f (allO (snap h snapDepth) as) (as.any (own snapDepth)) h d r κ s Q := by
  apply propext
  constructor
  · rintro ⟨v, h', ⟨n, e⟩, q⟩
    unfold callW at e
    rw [hf] at e
    simp only [hp, if_true] at e
    cases ha : allO (snap h snapDepth) as with
    | none => simp [ha] at e
    | some xs =>
      simp only [ha, Option.map_eq_some_iff] at e
      obtain ⟨r0, e, e2⟩ := e
      cases e2
      cases hb : evC T n c.body (initFr xs) AH.zero with
      | none => simp [hb, pureRes] at e
      | some p =>
        obtain ⟨ex, s1, h1⟩ := p
        rw [hb] at e
        have key : ∀ r1, resOf c.res s1 h1 = some r1 → (if as.any (own snapDepth) && !noImm h1 snapDepth r1 then none else snap h1 snapDepth r1) = some v →
            (ex = .nrm ∨ ex = .ret) → pureK T f (some xs) (as.any (own snapDepth)) h d r κ s Q := by
          intro r1 e1 e2 hx
          refine ⟨xs, c, r1, v, rfl, hf, hp, ⟨n, ex, s1, h1, hb, ?_⟩, q⟩
          have : resOf c.res s1 h1 = some r1 ∧ snap h1 snapDepth r1 = some v ∧ (as.any (own snapDepth) = false ∨ noImm h1 snapDepth r1 = true) := by
            refine ⟨e1, ?_, ?_⟩
            · split at e2
              · cases e2
              · exact e2
            · split at e2
              · cases e2
              · rename_i hh
                cases h3 : as.any (own snapDepth)
                · exact .inl rfl
                · simp [h3] at hh; exact .inr hh
          rcases hx with rfl | rfl <;> exact this
        cases ex with
        | exit i => simp [pureRes] at e
        | nrm =>
          simp only [pureRes] at e
          cases h1 : resOf c.res s1 h1 with
          | none => simp [h1] at e
          | some r1 => rw [h1] at e; exact key r1 h1 e (.inl rfl)
        | ret =>
          simp only [pureRes] at e
          cases h1 : resOf c.res s1 h1 with
          | none => simp [h1] at e
          | some r1 => rw [h1] at e; exact key r1 h1 e (.inr rfl)
  · rintro ⟨xs, c', r0, v, ha, hf', hp', hw, q⟩
    rw [hf] at hf'
    cases hf'
    refine ⟨v, h, CE_pure hf hp ha ?_, q⟩
    refine WC.imp hw fun e s' h1 hq => ?_
    cases e with
    | exit i => exact hq.elim
    | nrm => exact ⟨.inl rfl, r0, hq.1, hq.2.1, hq.2.2⟩
    | ret => exact ⟨.inr rfl, r0, hq.1, hq.2.1, hq.2.2⟩

theorem callK_prim {f : Nat} {as : List PV} {d : Option Nat} {r : List COper} {p : Bool} {g : List PV → AH → Option (PV × AH)} (hf : T f = some (.prim p g)) :
    callK T f as h d r κ s Q = opH T (g as h) d r κ s Q := by
  apply propext
  constructor
  · rintro ⟨v, h', ⟨n, e⟩, q⟩
    unfold callW at e
    rw [hf] at e
    simp only at e
    rw [e]
    exact q
  · intro q
    cases e : g as h with
    | none => rw [e] at q; exact q.elim
    | some p => rw [e] at q; exact ⟨_, _, CE_prim hf e, q⟩

/-- What a pure function makes of immutable arguments; 'sc': its result holds nothing of them. -/
def Pure (T : Nat → Option Fun) (f : Nat) (xs : List PV) (v : PV) (sc : Bool) : Prop :=
  ∃ c, T f = some (.code c) ∧ c.pure = true ∧ WK T c.body [] (initFr xs) AH.zero (fun s' h1 => ∃ r0, resOf c.res s' h1 = some r0 ∧ snap h1 snapDepth r0 = some v ∧ (sc = true → noImm h1 snapDepth r0 = true))

theorem pureK_eq {f : Nat} {xs : List PV} {v : PV} {sc o : Bool} {d : Option Nat} {r : List COper} (hp : Pure T f xs v sc) (ho : sc = true ∨ o = false) :
    pureK T f (some xs) o h d r κ s Q = WR T r κ (Fr.put s d v) h Q := by
  obtain ⟨c, hf, hpu, hw⟩ := hp
  obtain ⟨n, ex, s1, h1, hb, hq⟩ := hw
  have hq' : (ex = .nrm ∨ ex = .ret) ∧ ∃ r0, resOf c.res s1 h1 = some r0 ∧ snap h1 snapDepth r0 = some v ∧ (sc = true → noImm h1 snapDepth r0 = true) := by
    cases ex with
    | exit i => exact hq.elim
    | nrm => exact ⟨.inl rfl, hq⟩
    | ret => exact ⟨.inr rfl, hq⟩
  obtain ⟨hx, r0, e1, e2, e3⟩ := hq'
  have ho' : o = false ∨ noImm h1 snapDepth r0 = true := ho.symm.imp id e3
  apply propext
  constructor
  · rintro ⟨xs', c', r1, v', e, hf', _, ⟨m, ex', s2, h2, hb', hq2⟩, q⟩
    cases e
    rw [hf] at hf'
    cases hf'
    have a1 := evC_le (Nat.le_max_left n m) hb
    have a2 := evC_le (Nat.le_max_right n m) hb'
    rw [a1] at a2
    cases a2
    have : resOf c.res s1 h1 = some r1 ∧ snap h1 snapDepth r1 = some v' := by
      rcases hx with rfl | rfl <;> exact ⟨hq2.1, hq2.2.1⟩
    rw [e1] at this
    obtain ⟨g1, g2⟩ := this
    cases g1
    rw [e2] at g2
    cases g2
    exact q
  · intro q
    refine ⟨xs, c, r0, v, rfl, hf, hpu, ⟨n, ex, s1, h1, hb, ?_⟩, q⟩
    rcases hx with rfl | rfl <;> exact ⟨e1, e2, ho'⟩

theorem Pure.ce {f : Nat} {xs as : List PV} {v : PV} {sc : Bool} (hp : Pure T f xs v sc) (ha : allO (snap h snapDepth) as = some xs) (ho : sc = true ∨ as.any (own snapDepth) = false) : CE T f as h v h := by
  obtain ⟨c, hf, hpu, hw⟩ := hp
  refine CE_pure hf hpu ha (WC.imp hw fun e s' h1 hq => ?_)
  have key : (∃ r0, resOf c.res s' h1 = some r0 ∧ snap h1 snapDepth r0 = some v ∧ (sc = true → noImm h1 snapDepth r0 = true)) → ∃ r0, resOf c.res s' h1 = some r0 ∧ snap h1 snapDepth r0 = some v ∧ (as.any (own snapDepth) = false ∨ noImm h1 snapDepth r0 = true) := by
    rintro ⟨r0, e1, e2, e3⟩
    exact ⟨r0, e1, e2, ho.symm.imp id e3⟩
  cases e with
  | exit i => exact hq.elim
  | nrm => exact ⟨.inl rfl, key hq⟩
  | ret => exact ⟨.inr rfl, key hq⟩

theorem kQ_imp {Q' : Fr → AH → Prop} (hq : ∀ s h, Q s h → Q' s h) : ∀ (κ : List KF) (e : EX) (s : Fr) (h : AH), kQ T Q κ e s h → kQ T Q' κ e s h := by
  intro κ
  induction κ with
  | nil => intro e s h q; cases e <;> first | exact q | exact hq _ _ q
  | cons f κ ih =>
    intro e s h q
    cases f with
    | seq b => cases e <;> first | exact ih _ _ _ q | exact WC.imp q ih
    | block i =>
      cases e with
      | exit j =>
        simp only [kQ] at q ⊢
        split
        · rename_i hj; rw [if_pos hj] at q; exact ih _ _ _ q
        · rename_i hj; rw [if_neg hj] at q; exact ih _ _ _ q
      | nrm => exact ih _ _ _ q
      | ret => exact ih _ _ _ q
    | loop b => cases e <;> first | exact ih _ _ _ q | exact WC.imp q ih
    | abs P => cases e <;> first | exact ih _ _ _ q | exact q
theorem WK.imp {c : CCode} {Q' : Fr → AH → Prop} (hw : WK T c κ s h Q) (hq : ∀ s h, Q s h → Q' s h) : WK T c κ s h Q' := WC.imp hw (kQ_imp hq κ)

/-- What was computed outright. -/
theorem Pure_of_CE {f : Nat} {xs : List PV} {v : PV} {c : CFun} (e : CE T f xs AH.zero v AH.zero) (hf : T f = some (.code c)) (hp : c.pure = true) (ha : allO (snap AH.zero snapDepth) xs = some xs) : Pure T f xs v false := by
  have h1 : callK T f xs AH.zero (some 0) [] [] (fun _ => .undef) (fun s h => s 0 = v) := ⟨v, AH.zero, e, by rw [WR_nil, WK_skip_nil]; rfl⟩
  rw [callK_pure hf hp, ha] at h1
  obtain ⟨xs', c', r0, v', e1, e2, e3, hw, hq⟩ := h1
  cases e1
  rw [hf] at e2
  cases e2
  rw [WR_nil, WK_skip_nil] at hq
  have hv : v' = v := hq
  subst hv
  exact ⟨c, hf, hp, hw.imp fun s h q => ⟨r0, q.1, q.2.1, fun q => by cases q⟩⟩

/-- Slots. -/
@[simp] theorem val_t {n : Nat} : Opd.val s (.t n) = s n := rfl
@[simp] theorem val_c {v : PV} : Opd.val s (.c v) = v := rfl
@[simp ↓] theorem put_none {v : PV} : Fr.put s none v = s := rfl
@[simp ↓] theorem put_some {d t : Nat} {v : PV} : Fr.put s (some d) v t = if t = d then v else s t := rfl
@[simp ↓] theorem know_at {d t : Nat} {b : Bool} : Fr.know s d b t = if t = d then .bool b else s t := rfl
@[simp ↓] theorem initFr_at {as : List PV} {t : Nat} : initFr as t = as.getD t .undef := rfl
end Go.Ev

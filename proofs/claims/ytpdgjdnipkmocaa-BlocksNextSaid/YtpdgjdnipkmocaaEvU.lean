/- The evaluator without its fuel: rules that step through code, to be rewritten with, and a rule for loops. -/
import Derived.Test.YtpdgjdnipkmocaaEvA
set_option linter.unusedVariables false
set_option linter.unusedSimpArgs false
namespace Go.Ev
section
variable {T : Nat → Option Fun}

theorem evOps_mono {call call' : Nat → List PV → AH → Option (PV × AH)} (hc : ∀ f as h r, call f as h = some r → call' f as h = some r) :
    ∀ (ops : List COper) (s : Fr) (h : AH) (r : Fr × AH), evOps call ops s h = some r → evOps call' ops s h = some r := by
  intro ops
  induction ops with
  | nil => intro s h r e; exact e
  | cons o os ih =>
    intro s h r e
    simp only [evOps] at e ⊢
    split at e
    · rename_i hw
      rw [if_pos hw]
      cases hob : evOpB call o.op s h with
      | none => simp [hob] at e
      | some p =>
        rw [hob] at e
        have : evOpB call' o.op s h = some p := by
          unfold evOpB at hob ⊢
          split at hob
          case isFalse => cases hob
          rename_i hbar
          rw [if_pos hbar]
          have ho := hob
          cases hop : o.op <;> simp only [hop, evOp] at ho ⊢ <;> first | exact ho | skip
          · exact hc _ _ _ _ ho
          · split at ho
            · split at ho
              · rename_i hv hlt; rw [if_pos hlt]; exact hc _ _ _ _ ho
              · cases ho
            · cases ho
        rw [this]
        exact ih _ _ _ e
    · rename_i hw
      rw [if_neg hw]
      exact ih _ _ _ e

theorem callW_mono {run run' : CCode → Fr → AH → Option (EX × Fr × AH)} (hr : ∀ c s h r, run c s h = some r → run' c s h = some r) :
    ∀ (f : Nat) (as : List PV) (h : AH) (r : PV × AH), callW T run f as h = some r → callW T run' f as h = some r := by
  intro f as h r e
  unfold callW at e ⊢
  split at e
  · exact e
  · split at e
    · rename_i c hc hp
      rw [if_pos hp]
      split at e
      · rename_i as' has
        cases hb : run c.body (initFr as') AH.zero with
        | none => simp [hb, pureRes] at e
        | some p => rw [hr _ _ _ _ hb]; rw [hb] at e; exact e
      · cases e
    · rename_i c hc hp
      rw [if_neg hp]
      split at e
      · rename_i hx
        rw [if_pos hx]
        cases hb : run c.body (initFr as) h.bar with
        | none => simp [hb] at e
        | some p => rw [hr _ _ _ _ hb]; rw [hb] at e; exact e
      rename_i hx
      rw [if_neg hx]
      cases hb : run c.body (initFr as) h with
      | none => simp [hb] at e
      | some p => rw [hr _ _ _ _ hb]; rw [hb] at e; exact e
  · cases e

theorem evC_step : ∀ (n : Nat) (c : CCode) (s : Fr) (h : AH) (r : EX × Fr × AH), evC T n c s h = some r → evC T (n + 1) c s h = some r := by
  intro n
  induction n with
  | zero => intro c s h r e; cases e
  | succ n ih =>
    intro c s h r e
    unfold evC at e ⊢
    cases c with
    | skip => exact e
    | bad => exact e
    | reg ops =>
      simp only at e ⊢
      cases hb : evOps (callW T (evC T n)) ops s h with
      | none => simp [hb] at e
      | some p => rw [evOps_mono (callW_mono ih) _ _ _ _ hb]; rw [hb] at e; exact e
    | seq a b =>
      simp only at e ⊢
      cases hb : evC T n a s h with
      | none => simp [hb] at e
      | some p =>
        rw [ih _ _ _ _ hb]
        rw [hb] at e
        obtain ⟨ex, s', h'⟩ := p
        cases ex with
        | nrm => exact ih _ _ _ _ e
        | exit i => exact e
        | ret => exact e
    | cond c a b =>
      simp only at e ⊢
      split at e
      · rename_i hv; exact ih _ _ _ _ e
      · rename_i hv; exact ih _ _ _ _ e
      · cases e
    | block id c =>
      simp only at e ⊢
      cases hb : evC T n c s h with
      | none => simp [hb] at e
      | some p => rw [ih _ _ _ _ hb]; rw [hb] at e; exact e
    | loop c =>
      simp only at e ⊢
      cases hb : evC T n c s h with
      | none => simp [hb] at e
      | some p =>
        rw [ih _ _ _ _ hb]
        rw [hb] at e
        obtain ⟨ex, s', h'⟩ := p
        cases ex with
        | nrm => exact ih _ _ _ _ e
        | exit i => exact e
        | ret => exact e
    | exit id => exact e
    | ret => exact e

theorem evC_le {n m : Nat} (hm : n ≤ m) {c : CCode} {s : Fr} {h : AH} {r : EX × Fr × AH} (e : evC T n c s h = some r) : evC T m c s h = some r := by
  induction hm with
  | refl => exact e
  | step _ ih => exact evC_step _ _ _ _ _ ih

theorem callW_le {n m : Nat} (hm : n ≤ m) {f : Nat} {as : List PV} {h : AH} {r : PV × AH} (e : callW T (evC T n) f as h = some r) : callW T (evC T m) f as h = some r :=
  callW_mono (fun _ _ _ _ => evC_le hm) _ _ _ _ e

theorem evOps_le {n m : Nat} (hm : n ≤ m) {ops : List COper} {s : Fr} {h : AH} {r : Fr × AH} (e : evOps (callW T (evC T n)) ops s h = some r) : evOps (callW T (evC T m)) ops s h = some r :=
  evOps_mono (fun _ _ _ _ => callW_le hm) _ _ _ _ e

/-- A call that ends. -/
def CE (T : Nat → Option Fun) (f : Nat) (as : List PV) (h : AH) (v : PV) (h' : AH) : Prop := ∃ n, callW T (evC T n) f as h = some (v, h')
/-- Code that ends so. -/
def WC (T : Nat → Option Fun) (c : CCode) (s : Fr) (h : AH) (Q : EX → Fr → AH → Prop) : Prop := ∃ n ex s' h', evC T n c s h = some (ex, s', h') ∧ Q ex s' h'
def WO (T : Nat → Option Fun) (ops : List COper) (s : Fr) (h : AH) (Q : Fr → AH → Prop) : Prop := ∃ n s' h', evOps (callW T (evC T n)) ops s h = some (s', h') ∧ Q s' h'
def W1 (T : Nat → Option Fun) (o : COp) (s : Fr) (h : AH) (Q : PV → AH → Prop) : Prop := ∃ n v h', evOpB (callW T (evC T n)) o s h = some (v, h') ∧ Q v h'

theorem WC.imp {c : CCode} {s : Fr} {h : AH} {Q Q' : EX → Fr → AH → Prop} (hw : WC T c s h Q) (hq : ∀ e s h, Q e s h → Q' e s h) : WC T c s h Q' := by
  obtain ⟨n, ex, s', h', e, q⟩ := hw
  exact ⟨n, ex, s', h', e, hq _ _ _ q⟩

def thenQ (k : Fr → AH → Prop) (Q : EX → Fr → AH → Prop) : EX → Fr → AH → Prop
  | .nrm, s, h => k s h
  | .exit i, s, h => Q (.exit i) s h
  | .ret, s, h => Q .ret s h

def blockQ (id : Nat) (Q : EX → Fr → AH → Prop) : EX → Fr → AH → Prop
  | .nrm, s, h => Q .nrm s h
  | .exit i, s, h => if i = id then Q .nrm s h else Q (.exit i) s h
  | .ret, s, h => Q .ret s h

def condQ (v : PV) (A B : Prop) : Prop :=
  match v with
  | .bool true => A
  | .bool false => B
  | _ => False

def opQ (r : Option (PV × AH)) (Q : PV → AH → Prop) : Prop :=
  match r with
  | some (v, h) => Q v h
  | .none => False

theorem thenQ_nrm (k : Fr → AH → Prop) (Q : EX → Fr → AH → Prop) (s : Fr) (h : AH) : thenQ k Q .nrm s h = k s h := rfl
theorem thenQ_exit (k : Fr → AH → Prop) (Q : EX → Fr → AH → Prop) (s : Fr) (h : AH) (i : Nat) : thenQ k Q (.exit i) s h = Q (.exit i) s h := rfl
theorem thenQ_ret (k : Fr → AH → Prop) (Q : EX → Fr → AH → Prop) (s : Fr) (h : AH) : thenQ k Q .ret s h = Q .ret s h := rfl
theorem blockQ_nrm (id : Nat) (Q : EX → Fr → AH → Prop) (s : Fr) (h : AH) : blockQ id Q .nrm s h = Q .nrm s h := rfl
theorem blockQ_exit (id : Nat) (Q : EX → Fr → AH → Prop) (s : Fr) (h : AH) (i : Nat) : blockQ id Q (.exit i) s h = if i = id then Q .nrm s h else Q (.exit i) s h := rfl
theorem blockQ_ret (id : Nat) (Q : EX → Fr → AH → Prop) (s : Fr) (h : AH) : blockQ id Q .ret s h = Q .ret s h := rfl
theorem condQ_bool (b : Bool) (A B : Prop) : condQ (.bool b) A B = if b = true then A else B := by cases b <;> simp [condQ]
theorem condQ_true (A B : Prop) : condQ (.bool true) A B = A := rfl
theorem condQ_false (A B : Prop) : condQ (.bool false) A B = B := rfl
theorem opQ_some (v : PV) (h : AH) (Q : PV → AH → Prop) : opQ (some (v, h)) Q = Q v h := rfl

variable {s : Fr} {h : AH} {Q : EX → Fr → AH → Prop}

theorem WC_skip : WC T .skip s h Q = Q .nrm s h := by
  apply propext
  constructor
  · rintro ⟨n, ex, s', h', e, q⟩
    cases n with
    | zero => cases e
    | succ n => simp only [evC] at e; cases e; exact q
  · intro q; exact ⟨1, _, _, _, rfl, q⟩

theorem WC_exit {i : Nat} : WC T (.exit i) s h Q = Q (.exit i) s h := by
  apply propext
  constructor
  · rintro ⟨n, ex, s', h', e, q⟩
    cases n with
    | zero => cases e
    | succ n => simp only [evC] at e; cases e; exact q
  · intro q; exact ⟨1, _, _, _, rfl, q⟩

theorem WC_ret : WC T .ret s h Q = Q .ret s h := by
  apply propext
  constructor
  · rintro ⟨n, ex, s', h', e, q⟩
    cases n with
    | zero => cases e
    | succ n => simp only [evC] at e; cases e; exact q
  · intro q; exact ⟨1, _, _, _, rfl, q⟩

theorem WC_reg {ops : List COper} : WC T (.reg ops) s h Q = WO T ops s h (Q .nrm) := by
  apply propext
  constructor
  · rintro ⟨n, ex, s', h', e, q⟩
    cases n with
    | zero => cases e
    | succ n =>
      simp only [evC] at e
      cases hb : evOps (callW T (evC T n)) ops s h with
      | none => simp [hb] at e
      | some p => rw [hb] at e; cases e; exact ⟨n, _, _, hb, q⟩
  · rintro ⟨n, s', h', e, q⟩
    exact ⟨n + 1, .nrm, s', h', by simp only [evC, e], q⟩

theorem WC_seq {a b : CCode} : WC T (.seq a b) s h Q = WC T a s h (thenQ (fun s' h' => WC T b s' h' Q) Q) := by
  apply propext
  constructor
  · rintro ⟨n, ex, s', h', e, q⟩
    cases n with
    | zero => cases e
    | succ n =>
      simp only [evC] at e
      cases hb : evC T n a s h with
      | none => simp [hb] at e
      | some p =>
        obtain ⟨e1, s1, h1⟩ := p
        rw [hb] at e
        refine ⟨n, e1, s1, h1, hb, ?_⟩
        cases e1 with
        | nrm => exact ⟨n, _, _, _, e, q⟩
        | exit i => cases e; exact q
        | ret => cases e; exact q
  · rintro ⟨n, e1, s1, h1, hb, q⟩
    cases e1 with
    | nrm =>
      obtain ⟨m, ex, s', h', e, q⟩ := q
      refine ⟨max n m + 1, ex, s', h', ?_, q⟩
      simp only [evC, evC_le (Nat.le_max_left n m) hb]
      exact evC_le (Nat.le_max_right n m) e
    | exit i => exact ⟨n + 1, _, _, _, by simp only [evC, hb], q⟩
    | ret => exact ⟨n + 1, _, _, _, by simp only [evC, hb], q⟩

theorem WC_cond {c : Opd} {a b : CCode} : WC T (.cond c a b) s h Q = condQ (c.val s) (WC T a s h Q) (WC T b s h Q) := by
  apply propext
  constructor
  · rintro ⟨n, ex, s', h', e, q⟩
    cases n with
    | zero => cases e
    | succ n =>
      simp only [evC] at e
      split at e
      · rename_i hv; rw [hv]; exact ⟨n, _, _, _, e, q⟩
      · rename_i hv; rw [hv]; exact ⟨n, _, _, _, e, q⟩
      · cases e
  · intro q
    unfold condQ at q
    split at q
    · rename_i hv
      obtain ⟨n, ex, s', h', e, q⟩ := q
      exact ⟨n + 1, ex, s', h', by simp only [evC, hv]; exact e, q⟩
    · rename_i hv
      obtain ⟨n, ex, s', h', e, q⟩ := q
      exact ⟨n + 1, ex, s', h', by simp only [evC, hv]; exact e, q⟩
    · exact q.elim

theorem WC_block {id : Nat} {c : CCode} : WC T (.block id c) s h Q = WC T c s h (blockQ id Q) := by
  apply propext
  constructor
  · rintro ⟨n, ex, s', h', e, q⟩
    cases n with
    | zero => cases e
    | succ n =>
      simp only [evC] at e
      cases hb : evC T n c s h with
      | none => simp [hb] at e
      | some p =>
        obtain ⟨e1, s1, h1⟩ := p
        rw [hb] at e
        refine ⟨n, e1, s1, h1, hb, ?_⟩
        cases e1 with
        | nrm => cases e; exact q
        | exit i =>
          simp only [Option.some.injEq, Prod.mk.injEq] at e
          obtain ⟨rfl, rfl, rfl⟩ := e
          rw [blockQ_exit]
          by_cases hi : i = id <;> simpa [hi] using q
        | ret => cases e; exact q
  · rintro ⟨n, e1, s1, h1, hb, q⟩
    cases e1 with
    | nrm => exact ⟨n + 1, _, _, _, by simp only [evC, hb], q⟩
    | exit i =>
      rw [blockQ_exit] at q
      by_cases hi : i = id
      · rw [if_pos hi] at q; exact ⟨n + 1, .nrm, _, _, by simp only [evC, hb, if_pos hi], q⟩
      · rw [if_neg hi] at q; exact ⟨n + 1, .exit i, _, _, by simp only [evC, hb, if_neg hi], q⟩
    | ret => exact ⟨n + 1, _, _, _, by simp only [evC, hb], q⟩

/-- A loop: 'J k' holds before round k, and there are at most m rounds. -/
theorem WC_loop {c : CCode} (J : Nat → Fr → AH → Prop) (m : Nat)
    (step : ∀ k s h, k ≤ m → J k s h → WC T c s h (thenQ (fun s' h' => k < m ∧ J (k + 1) s' h') Q)) (h0 : J 0 s h) : WC T (.loop c) s h Q := by
  have : ∀ d k s h, k + d = m → J k s h → WC T (.loop c) s h Q := by
    intro d
    induction d with
    | zero =>
      intro k s h hk hj
      obtain ⟨n, e1, s1, h1, hb, q⟩ := step k s h (by omega) hj
      cases e1 with
      | nrm => exact absurd q.1 (by omega)
      | exit i => exact ⟨n + 1, _, _, _, by simp only [evC, hb], q⟩
      | ret => exact ⟨n + 1, _, _, _, by simp only [evC, hb], q⟩
    | succ d ih =>
      intro k s h hk hj
      obtain ⟨n, e1, s1, h1, hb, q⟩ := step k s h (by omega) hj
      cases e1 with
      | nrm =>
        obtain ⟨n2, e2, s2, h2, hb2, q2⟩ := ih (k + 1) s1 h1 (by omega) q.2
        refine ⟨max n n2 + 1, e2, s2, h2, ?_, q2⟩
        simp only [evC, evC_le (Nat.le_max_left n n2) hb]
        exact evC_le (Nat.le_max_right n n2) hb2
      | exit i => exact ⟨n + 1, _, _, _, by simp only [evC, hb], q⟩
      | ret => exact ⟨n + 1, _, _, _, by simp only [evC, hb], q⟩
  exact this m 0 s h (by omega) h0

theorem WO_nil {Q : Fr → AH → Prop} : WO T [] s h Q = Q s h := by
  apply propext
  constructor
  · rintro ⟨n, s', h', e, q⟩; simp only [evOps] at e; cases e; exact q
  · intro q; exact ⟨0, _, _, rfl, q⟩

theorem WO_cons {o : COper} {r : List COper} {Q : Fr → AH → Prop} :
    WO T (o :: r) s h Q = if wants o.guard s = true then W1 T o.op s h (fun v h' => WO T r (Fr.put s o.dst v) h' Q) else WO T r (Fr.put s o.dst .undef) h Q := by
  apply propext
  constructor
  · rintro ⟨n, s', h', e, q⟩
    simp only [evOps] at e
    split at e
    · rename_i hw
      rw [if_pos hw]
      cases ho : evOpB (callW T (evC T n)) o.op s h with
      | none => simp [ho] at e
      | some p => rw [ho] at e; exact ⟨n, p.1, p.2, ho, n, s', h', e, q⟩
    · rename_i hw
      rw [if_neg hw]
      exact ⟨n, s', h', e, q⟩
  · intro q
    split at q
    · rename_i hw
      obtain ⟨n, v, h1, ho, m, s', h', e, q⟩ := q
      refine ⟨max n m, s', h', ?_, q⟩
      have h2 : evOps (callW T (evC T n)) [⟨o.dst, o.op, .none⟩] s h = some (Fr.put s o.dst v, h1) := by simp only [evOps, wants, if_true, ho]
      have h3 := evOps_le (Nat.le_max_left n m) h2
      simp only [evOps, wants, if_true] at h3
      simp only [evOps, hw, if_true]
      cases ho2 : evOpB (callW T (evC T (max n m))) o.op s h with
      | none => simp [ho2] at h3
      | some p =>
        rw [ho2] at h3
        have h4 : Fr.put s o.dst p.1 = Fr.put s o.dst v ∧ p.2 = h1 := by simpa using h3
        simp only [h4.1, h4.2]
        exact evOps_le (Nat.le_max_right n m) e
    · rename_i hw
      obtain ⟨m, s', h', e, q⟩ := q
      exact ⟨m, s', h', by simp only [evOps]; rw [if_neg hw]; exact e, q⟩

/-- An op that is not a call. -/
theorem W1_op {o : COp} {Q : PV → AH → Prop} (hp : ∀ call call', evOp call o s h = evOp call' o s h) :
    W1 T o s h Q = opQ (evOpB (fun _ _ _ => .none) o s h) Q := by
  have hpb : ∀ call call', evOpB call o s h = evOpB call' o s h := fun call call' => by unfold evOpB; rw [hp call call']
  apply propext
  constructor
  · rintro ⟨n, v, h', e, q⟩
    rw [hpb _ (fun _ _ _ => .none)] at e
    rw [e]; exact q
  · intro q
    cases e : evOpB (fun _ _ _ => .none) o s h with
    | none => rw [e] at q; exact q.elim
    | some p => rw [e] at q; exact ⟨0, p.1, p.2, by rw [hpb _ (fun _ _ _ => .none)]; exact e, q⟩

theorem W1_call {f : Nat} {as : List Opd} {Q : PV → AH → Prop} : W1 T (.call f as) s h Q = ∃ v h', CE T f (as.map (Opd.val s)) h v h' ∧ Q v h' := by
  apply propext
  constructor
  · rintro ⟨n, v, h', e, q⟩; exact ⟨v, h', ⟨n, e⟩, q⟩
  · rintro ⟨v, h', ⟨n, e⟩, q⟩; exact ⟨n, v, h', e, q⟩

theorem W1_callv {f : Opd} {as : List Opd} {Q : PV → AH → Prop} {g : Nat} {fs cs : List PV} (hf : f.val s = .fn g fs cs) (hg : g < vb) :
    W1 T (.callv f as) s h Q = ∃ v h', CE T g (fs ++ as.map (Opd.val s) ++ cs) h v h' ∧ Q v h' := by
  have key : ∀ n, evOpB (callW T (evC T n)) (.callv f as) s h = callW T (evC T n) g (fs ++ as.map (Opd.val s) ++ cs) h := fun n => by
    show evOp (callW T (evC T n)) (.callv f as) s h = _
    simp only [evOp, hf, if_pos hg]
  apply propext
  constructor
  · rintro ⟨n, v, h', e, q⟩; rw [key] at e; exact ⟨v, h', ⟨n, e⟩, q⟩
  · rintro ⟨v, h', ⟨n, e⟩, q⟩; exact ⟨n, v, h', by rw [key]; exact e, q⟩

theorem W1_mov {x : Opd} {Q : PV → AH → Prop} : W1 T (.mov x) s h Q = opQ (evOp (fun _ _ _ => .none) (.mov x) s h) Q := W1_op fun _ _ => rfl
theorem W1_nilchk {x : Opd} {Q : PV → AH → Prop} : W1 T (.nilchk x) s h Q = opQ (evOp (fun _ _ _ => .none) (.nilchk x) s h) Q := W1_op fun _ _ => rfl
theorem W1_pick {c a b : Opd} {Q : PV → AH → Prop} : W1 T (.pick c a b) s h Q = opQ (evOp (fun _ _ _ => .none) (.pick c a b) s h) Q := W1_op fun _ _ => rfl
theorem W1_alloc {zs : List PV} {Q : PV → AH → Prop} : W1 T (.alloc zs) s h Q = opQ (evOp (fun _ _ _ => .none) (.alloc zs) s h) Q := W1_op fun _ _ => rfl
theorem W1_box {x : Opd} {Q : PV → AH → Prop} : W1 T (.box x) s h Q = opQ (evOp (fun _ _ _ => .none) (.box x) s h) Q := W1_op fun _ _ => rfl
theorem W1_boxi {x : Opd} {Q : PV → AH → Prop} : W1 T (.boxi x) s h Q = opQ (evOp (fun _ _ _ => .none) (.boxi x) s h) Q := W1_op fun _ _ => rfl
theorem W1_blit {n : Nat} {zs : List PV} {ps : List (Nat × Nat × Opd)} {Q : PV → AH → Prop} : W1 T (.blit n zs ps) s h Q = opQ (evOp (fun _ _ _ => .none) (.blit n zs ps) s h) Q := W1_op fun _ _ => rfl
theorem W1_clear {z : Nat} {zs : List PV} {x : Opd} {Q : PV → AH → Prop} : W1 T (.clear z zs x) s h Q = opQ (evOpB (fun _ _ _ => .none) (.clear z zs x) s h) Q := W1_op fun _ _ => rfl
theorem W1_bslice {z n : Nat} {zs : List PV} {ps : List (Nat × Nat × Opd)} {Q : PV → AH → Prop} : W1 T (.bslice z n zs ps) s h Q = opQ (evOp (fun _ _ _ => .none) (.bslice z n zs ps) s h) Q := W1_op fun _ _ => rfl
theorem W1_build {zs : List PV} {ps : List (Nat × Nat × Opd)} {Q : PV → AH → Prop} : W1 T (.build zs ps) s h Q = opQ (evOp (fun _ _ _ => .none) (.build zs ps) s h) Q := W1_op fun _ _ => rfl
theorem W1_load {g : Bool} {n : Nat} {a : Opd} {Q : PV → AH → Prop} : W1 T (.load g n a) s h Q = opQ (evOp (fun _ _ _ => .none) (.load g n a) s h) Q := W1_op fun _ _ => rfl
theorem W1_store {n : Nat} {a x : Opd} {Q : PV → AH → Prop} : W1 T (.store n a x) s h Q = opQ (evOpB (fun _ _ _ => .none) (.store n a x) s h) Q := W1_op fun _ _ => rfl
theorem W1_bin {op : BinOp} {x y : Opd} {Q : PV → AH → Prop} : W1 T (.bin op x y) s h Q = opQ (evOp (fun _ _ _ => .none) (.bin op x y) s h) Q := W1_op fun _ _ => rfl
theorem W1_eqb {g : Bool} {x y : Opd} {Q : PV → AH → Prop} : W1 T (.eqb g x y) s h Q = opQ (evOp (fun _ _ _ => .none) (.eqb g x y) s h) Q := W1_op fun _ _ => rfl
theorem W1_eqs {g : Bool} {ks : List Nat} {x y : Opd} {Q : PV → AH → Prop} : W1 T (.eqs g ks x y) s h Q = opQ (evOp (fun _ _ _ => .none) (.eqs g ks x y) s h) Q := W1_op fun _ _ => rfl
theorem W1_isnil {g : Bool} {k : Nat} {x : Opd} {Q : PV → AH → Prop} : W1 T (.isnil g k x) s h Q = opQ (evOp (fun _ _ _ => .none) (.isnil g k x) s h) Q := W1_op fun _ _ => rfl
theorem W1_un {op : UnOp} {x : Opd} {Q : PV → AH → Prop} : W1 T (.un op x) s h Q = opQ (evOp (fun _ _ _ => .none) (.un op x) s h) Q := W1_op fun _ _ => rfl
theorem W1_conv {k : IntKind} {x : Opd} {Q : PV → AH → Prop} : W1 T (.conv k x) s h Q = opQ (evOp (fun _ _ _ => .none) (.conv k x) s h) Q := W1_op fun _ _ => rfl
theorem W1_str {x : Opd} {Q : PV → AH → Prop} : W1 T (.str x) s h Q = opQ (evOp (fun _ _ _ => .none) (.str x) s h) Q := W1_op fun _ _ => rfl
theorem W1_mkfn {f : Nat} {fs cs : List Opd} {Q : PV → AH → Prop} : W1 T (.mkfn f fs cs) s h Q = opQ (evOp (fun _ _ _ => .none) (.mkfn f fs cs) s h) Q := W1_op fun _ _ => rfl
theorem W1_mkmap  {Q : PV → AH → Prop} : W1 T (.mkmap) s h Q = opQ (evOp (fun _ _ _ => .none) (.mkmap) s h) Q := W1_op fun _ _ => rfl
theorem W1_mkslice {z b : Nat} {zs : List PV} {l c : Opd} {Q : PV → AH → Prop} : W1 T (.mkslice z b zs l c) s h Q = opQ (evOp (fun _ _ _ => .none) (.mkslice z b zs l c) s h) Q := W1_op fun _ _ => rfl
theorem W1_slice {z : Nat} {x : Opd} {lo hi mx : Option Opd} {Q : PV → AH → Prop} : W1 T (.slice z x lo hi mx) s h Q = opQ (evOp (fun _ _ _ => .none) (.slice z x lo hi mx) s h) Q := W1_op fun _ _ => rfl
theorem W1_slstr {x : Opd} {lo hi : Option Opd} {Q : PV → AH → Prop} : W1 T (.slstr x lo hi) s h Q = opQ (evOp (fun _ _ _ => .none) (.slstr x lo hi) s h) Q := W1_op fun _ _ => rfl
theorem W1_fld {k : Nat} {x : Opd} {Q : PV → AH → Prop} : W1 T (.fld k x) s h Q = opQ (evOp (fun _ _ _ => .none) (.fld k x) s h) Q := W1_op fun _ _ => rfl
theorem W1_fldv {g : Bool} {k n : Nat} {x : Opd} {Q : PV → AH → Prop} : W1 T (.fldv g k n x) s h Q = opQ (evOp (fun _ _ _ => .none) (.fldv g k n x) s h) Q := W1_op fun _ _ => rfl
theorem W1_idx {z : Nat} {x i : Opd} {Q : PV → AH → Prop} : W1 T (.idx z x i) s h Q = opQ (evOp (fun _ _ _ => .none) (.idx z x i) s h) Q := W1_op fun _ _ => rfl
theorem W1_idxp {l z : Nat} {x i : Opd} {Q : PV → AH → Prop} : W1 T (.idxp l z x i) s h Q = opQ (evOp (fun _ _ _ => .none) (.idxp l z x i) s h) Q := W1_op fun _ _ => rfl
theorem W1_idxv {g : Bool} {l z : Nat} {x i : Opd} {Q : PV → AH → Prop} : W1 T (.idxv g l z x i) s h Q = opQ (evOp (fun _ _ _ => .none) (.idxv g l z x i) s h) Q := W1_op fun _ _ => rfl
theorem W1_idxs {x i : Opd} {Q : PV → AH → Prop} : W1 T (.idxs x i) s h Q = opQ (evOp (fun _ _ _ => .none) (.idxs x i) s h) Q := W1_op fun _ _ => rfl
theorem W1_lkp {kd : Nat} {z : PV} {ok : Bool} {m k : Opd} {Q : PV → AH → Prop} : W1 T (.lkp kd z ok m k) s h Q = opQ (evOp (fun _ _ _ => .none) (.lkp kd z ok m k) s h) Q := W1_op fun _ _ => rfl
theorem W1_upd {kd : Nat} {m k v : Opd} {Q : PV → AH → Prop} : W1 T (.upd kd m k v) s h Q = opQ (evOpB (fun _ _ _ => .none) (.upd kd m k v) s h) Q := W1_op fun _ _ => rfl
theorem W1_ext {x : Opd} {i : Nat} {Q : PV → AH → Prop} : W1 T (.ext x i) s h Q = opQ (evOp (fun _ _ _ => .none) (.ext x i) s h) Q := W1_op fun _ _ => rfl
theorem W1_len {k : Nat} {x : Opd} {Q : PV → AH → Prop} : W1 T (.len k x) s h Q = opQ (evOp (fun _ _ _ => .none) (.len k x) s h) Q := W1_op fun _ _ => rfl
theorem W1_app {z b : Nat} {x y : Opd} {Q : PV → AH → Prop} : W1 T (.app z b x y) s h Q = opQ (evOpB (fun _ _ _ => .none) (.app z b x y) s h) Q := W1_op fun _ _ => rfl
theorem W1_minmax {g : Bool} {xs : List Opd} {Q : PV → AH → Prop} : W1 T (.minmax g xs) s h Q = opQ (evOp (fun _ _ _ => .none) (.minmax g xs) s h) Q := W1_op fun _ _ => rfl
theorem W1_del {kd : Nat} {m k : Opd} {Q : PV → AH → Prop} : W1 T (.del kd m k) s h Q = opQ (evOpB (fun _ _ _ => .none) (.del kd m k) s h) Q := W1_op fun _ _ => rfl

theorem CE_prim {f : Nat} {as : List PV} {v : PV} {h' : AH} {p : Bool} {g : List PV → AH → Option (PV × AH)} (hf : T f = some (.prim p g)) (hg : g as h = some (v, h')) : CE T f as h v h' :=
  ⟨0, by unfold callW; rw [hf]; exact hg⟩

/-- A call in the caller's heap. -/
theorem CE_shared {f : Nat} {as : List PV} {v : PV} {h' : AH} {c : CFun} (hf : T f = some (.code c)) (hp : c.pure = false) (hx : c.ext = false)
    (hw : WC T c.body (initFr as) h (fun ex s' h1 => (ex = .nrm ∨ ex = .ret) ∧ h1 = h' ∧ resOf c.res s' h' = some v)) : CE T f as h v h' := by
  obtain ⟨n, ex, s', h1, e, hx2, rfl, hr⟩ := hw
  refine ⟨n, ?_⟩
  unfold callW
  rw [hf]
  simp only [hp, hx, Bool.false_eq_true, if_false, e]
  rcases hx2 with rfl | rfl <;> simp [hr, hx]

/-- A call in the caller's heap that writes only what it made. -/
theorem CE_ext {f : Nat} {as : List PV} {v : PV} {h' : AH} {c : CFun} (hf : T f = some (.code c)) (hp : c.pure = false) (hx : c.ext = true)
    (hw : WC T c.body (initFr as) h.bar (fun ex s' h1 => (ex = .nrm ∨ ex = .ret) ∧ h.unbar h1 = h' ∧ resOf c.res s' h1 = some v)) : CE T f as h v h' := by
  obtain ⟨n, ex, s', h1, e, hx', rfl, hr⟩ := hw
  refine ⟨n, ?_⟩
  unfold callW
  rw [hf]
  simp only [hp, hx, Bool.false_eq_true, if_false, if_true, e]
  rcases hx' with rfl | rfl <;> simp [hr]

/-- A pure call, its arguments immutable already. -/
theorem CE_pure {f : Nat} {as as' : List PV} {v : PV} {c : CFun} (hf : T f = some (.code c)) (hp : c.pure = true)
    (has : allO (snap h snapDepth) as = some as')
    (hw : WC T c.body (initFr as') AH.zero (fun ex s' h1 => (ex = .nrm ∨ ex = .ret) ∧ ∃ r0, resOf c.res s' h1 = some r0 ∧ snap h1 snapDepth r0 = some v ∧ (as.any (own snapDepth) = false ∨ noImm h1 snapDepth r0 = true))) : CE T f as h v h := by
  obtain ⟨n, ex, s', h1, e, hx, r0, hr, hs, ho⟩ := hw
  refine ⟨n, ?_⟩
  unfold callW
  rw [hf]
  simp only [hp, if_true, has, e]
  have : (as.any (own snapDepth) && !noImm h1 snapDepth r0) = false := by rcases ho with ho | ho <;> simp [ho]
  rcases hx with rfl | rfl <;> simp [pureRes, hr, this, hs]
end
end Go.Ev

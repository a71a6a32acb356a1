/- Loops: an invariant, what a loop leaves alone, and the rule for a loop over a range. -/
import Derived.Test.YtkaabknkabdfpaaGreatDoorEwB
import Derived.Test.YtkaabknkabdfpaaGreatDoorLibB
set_option linter.unusedVariables false
set_option linter.unusedSimpArgs false
namespace Go.Ev

/-- All that a list of operations, or code, writes lies in 'ws'. -/
def opsIn (ws : List Nat) : List COper → Bool
  | [] => true
  | o :: r => (match o.dst with | some d => ws.contains d | none => true) && opsIn ws r
def wrIn (ws : List Nat) : CCode → Bool
  | .reg ops => opsIn ws ops
  | .seq a b => wrIn ws a && wrIn ws b
  | .cond _ a b => wrIn ws a && wrIn ws b
  | .block _ c => wrIn ws c
  | .loop c => wrIn ws c
  | _ => true

/-- The heap only grows, the bar stays, and nothing below it changes. -/
structure Grow (h h' : AH) : Prop where
  eq : h'.lo = h.lo
  le : h.nx ≤ h'.nx
  keep : h.lo ≤ h.nx → ∀ i, i < h.lo → h'.blk i = h.blk i
theorem Grow.refl (h : AH) : Grow h h := ⟨rfl, Nat.le_refl _, fun _ _ _ => rfl⟩
theorem Grow.trans {a b c : AH} (x : Grow a b) (y : Grow b c) : Grow a c :=
  ⟨y.1.trans x.1, Nat.le_trans x.2 y.2, fun h i hi => (y.3 (by rw [x.1]; exact Nat.le_trans h x.2) i (by rw [x.1]; exact hi)).trans (x.3 h i hi)⟩
def TGrow (T : Nat → Option Fun) : Prop := ∃ (L : LoopSpec) (P : Program) (pu : Nat → Bool), @TOk L P pu T

section
variable {T : Nat → Option Fun}

theorem evOps_frame {call : Nat → List PV → AH → Option (PV × AH)} {ws : List Nat} : ∀ (ops : List COper) (s : Fr) (h : AH) (s' : Fr) (h' : AH), opsIn ws ops = true → evOps call ops s h = some (s', h') → ∀ t, t ∉ ws → s' t = s t := by
  intro ops
  induction ops with
  | nil => intro s h s' h' _ e t _; simp only [evOps] at e; cases e; rfl
  | cons o r ih =>
    intro s h s' h' hw e t ht
    simp only [opsIn, Bool.and_eq_true] at hw
    have hput : ∀ v, Fr.put s o.dst v t = s t := by
      intro v
      cases hd : o.dst with
      | none => rfl
      | some d =>
        simp only [hd, List.contains_iff_mem] at hw
        have : t ≠ d := fun q => ht (q ▸ hw.1)
        simp [Fr.put, this]
    simp only [evOps] at e
    split at e
    · cases ho : evOpB call o.op s h with
      | none => simp [ho] at e
      | some p => rw [ho] at e; rw [ih _ _ _ _ hw.2 e t ht, hput]
    · rw [ih _ _ _ _ hw.2 e t ht, hput]

theorem evC_frame {ws : List Nat} : ∀ (n : Nat) (c : CCode) (s : Fr) (h : AH) (ex : EX) (s' : Fr) (h' : AH), wrIn ws c = true → evC T n c s h = some (ex, s', h') → ∀ t, t ∉ ws → s' t = s t := by
  intro n
  induction n with
  | zero => intro c s h ex s' h' _ e; cases e
  | succ n ih =>
    intro c s h ex s' h' hw e t ht
    unfold evC at e
    cases c with
    | skip => cases e; rfl
    | bad => cases e
    | reg ops =>
      simp only at e
      cases hb : evOps (callW T (evC T n)) ops s h with
      | none => simp [hb] at e
      | some p => rw [hb] at e; cases e; exact evOps_frame _ _ _ _ _ hw hb t ht
    | seq a b =>
      simp only [wrIn, Bool.and_eq_true] at hw
      simp only at e
      cases hb : evC T n a s h with
      | none => simp [hb] at e
      | some p =>
        obtain ⟨e1, s1, h1⟩ := p
        rw [hb] at e
        have h2 := ih _ _ _ _ _ _ hw.1 hb t ht
        cases e1 with
        | nrm => rw [ih _ _ _ _ _ _ hw.2 e t ht, h2]
        | exit i => cases e; exact h2
        | ret => cases e; exact h2
    | cond c a b =>
      simp only [wrIn, Bool.and_eq_true] at hw
      simp only at e
      split at e
      · exact ih _ _ _ _ _ _ hw.1 e t ht
      · exact ih _ _ _ _ _ _ hw.2 e t ht
      · cases e
    | block id c =>
      simp only at e
      cases hb : evC T n c s h with
      | none => simp [hb] at e
      | some p =>
        obtain ⟨e1, s1, h1⟩ := p
        rw [hb] at e
        have h2 := ih _ _ _ _ _ _ (show wrIn ws c = true from hw) hb t ht
        cases e1 <;> (cases e; exact h2)
    | loop c =>
      simp only at e
      cases hb : evC T n c s h with
      | none => simp [hb] at e
      | some p =>
        obtain ⟨e1, s1, h1⟩ := p
        rw [hb] at e
        have h2 := ih _ _ _ _ _ _ (show wrIn ws c = true from hw) hb t ht
        cases e1 with
        | nrm => rw [ih (.loop c) _ _ _ _ _ hw e t ht, h2]
        | exit i => cases e; exact h2
        | ret => cases e; exact h2
    | exit id => cases e; rfl
    | ret => cases e; rfl
    | rangef x ps ca cb =>
      simp only at e
      split at e
      · split at e
        · split at e
          · split at e
            · cases e; rfl
            · cases e; rfl
            · cases e
          · cases e
        · cases e
      · cases e

theorem evC_grow (hT : TGrow T) (n : Nat) (c : CCode) (s : Fr) (h : AH) (ex : EX) (s' : Fr) (h' : AH) (e : evC T n c s h = some (ex, s', h')) : Grow h h' := by
  obtain ⟨L, P, pu, ht⟩ := hT
  have k := evC_kl ht _ _ _ _ _ _ _ e
  exact ⟨k.1, k.2.1, k.2.2⟩

variable {κ : List KF} {s : Fr} {h : AH} {Q : Fr → AH → Prop}

/-- What follows a round of a loop. -/
def roundQ (T : Nat → Option Fun) (κ : List KF) (Q : Fr → AH → Prop) (J : Fr → AH → Prop) : EX → Fr → AH → Prop
  | .nrm, s, h => J s h
  | .exit i, s, h => WK T (.exit i) κ s h Q
  | .ret, s, h => False
@[simp] theorem roundQ_nrm {J : Fr → AH → Prop} : roundQ T κ Q J .nrm s h = J s h := rfl
@[simp] theorem roundQ_exit {J : Fr → AH → Prop} {i : Nat} : roundQ T κ Q J (.exit i) s h = WK T (.exit i) κ s h Q := rfl

/-- A cut: what holds behind some code is all that the rest is shown from. -/
theorem WK_cut (hT : TGrow T) {c : CCode} (P : Fr → AH → Prop) (ws : List Nat) (hw : wrIn ws c = true) (h1 : WK T c (.abs (roundQ T κ Q P) :: κ) s h Q)
    (h3 : ∀ s' h', P s' h' → (∀ t, t ∉ ws → s' t = s t) → Grow h h' → WK T .skip κ s' h' Q) : WK T c κ s h Q := by
  obtain ⟨n, ex, s', h', e, q⟩ := h1
  cases ex with
  | nrm =>
    obtain ⟨m, e2, s2, h2, hb, q2⟩ := h3 s' h' q (evC_frame _ _ _ _ _ _ _ hw e) (evC_grow hT _ _ _ _ _ _ _ e)
    cases m with
    | zero => cases hb
    | succ m => simp only [evC] at hb; cases hb; exact ⟨n, _, _, _, e, q2⟩
  | exit i =>
    obtain ⟨m, e2, s2, h2, hb, q2⟩ := (q : WK T (.exit i) κ s' h' Q)
    cases m with
    | zero => cases hb
    | succ m => simp only [evC] at hb; cases hb; exact ⟨n, _, _, _, e, q2⟩
  | ret => exact ⟨n, _, _, _, e, q⟩
theorem condS_cut (hT : TGrow T) {v : Bool} {t : Nat} {a b : CCode} (P : Fr → AH → Prop) (ws : List Nat) (hwa : wrIn ws a = true) (hwb : wrIn ws b = true) (hst : s t = .bool v)
    (h1 : v = true → WK T a (.abs (roundQ T κ Q P) :: κ) (s.know t true) h Q) (h2 : v = false → WK T b (.abs (roundQ T κ Q P) :: κ) (s.know t false) h Q)
    (h3 : ∀ s' h', P s' h' → (∀ t, t ∉ ws → s' t = s t) → Grow h h' → WK T .skip κ s' h' Q) : condS T (.bool v) t a b κ s h Q := by
  cases v
  · rw [condS_false]; rw [Fr.know_eq hst] at h2 ⊢; exact WK_cut hT P ws hwb (h2 rfl) h3
  · rw [condS_true]; rw [Fr.know_eq hst] at h1 ⊢; exact WK_cut hT P ws hwa (h1 rfl) h3

/-- A loop: 'J k' holds before round k, there are at most m rounds, only the slots in 'ws' change, the heap grows. -/
theorem WK_loop (hT : TGrow T) {c : CCode} (J : Nat → Fr → AH → Prop) (m : Nat) (ws : List Nat) (hw : wrIn ws c = true) (h0 : J 0 s h)
    (step : ∀ k s' h', k ≤ m → J k s' h' → (∀ t, t ∉ ws → s' t = s t) → Grow h h' → WK T c (.abs (roundQ T κ Q fun s'' h'' => k < m ∧ J (k + 1) s'' h'') :: κ) s' h' Q) : WK T (.loop c) κ s h Q := by
  have key : ∀ d k s' h', k + d = m → J k s' h' → (∀ t, t ∉ ws → s' t = s t) → Grow h h' → WK T (.loop c) κ s' h' Q := by
    intro d
    induction d with
    | zero =>
      intro k s' h' hk hj hs hg
      obtain ⟨n, e1, s1, h1, hb, q⟩ := step k s' h' (by omega) hj hs hg
      cases e1 with
      | nrm => exact absurd q.1 (by omega)
      | exit i =>
        refine ⟨n + 1, _, _, _, by simp only [evC, hb]; rfl, ?_⟩
        obtain ⟨n2, e2, s2, h2, hb2, q2⟩ := (q : WK T (.exit i) κ s1 h1 Q)
        cases n2 with
        | zero => cases hb2
        | succ n2 => simp only [evC] at hb2; cases hb2; exact q2
      | ret => exact ⟨n + 1, _, _, _, by simp only [evC, hb], q⟩
    | succ d ih =>
      intro k s' h' hk hj hs hg
      obtain ⟨n, e1, s1, h1, hb, q⟩ := step k s' h' (by omega) hj hs hg
      cases e1 with
      | nrm =>
        have hs1 : ∀ t, t ∉ ws → s1 t = s t := fun t ht => (evC_frame _ _ _ _ _ _ _ hw hb t ht).trans (hs t ht)
        obtain ⟨n2, e2, s2, h2, hb2, q2⟩ := ih (k + 1) s1 h1 (by omega) q.2 hs1 (hg.trans (evC_grow hT _ _ _ _ _ _ _ hb))
        refine ⟨max n n2 + 1, e2, s2, h2, ?_, q2⟩
        simp only [evC, evC_le (Nat.le_max_left n n2) hb]
        exact evC_le (Nat.le_max_right n n2) hb2
      | exit i =>
        refine ⟨n + 1, _, _, _, by simp only [evC, hb]; rfl, ?_⟩
        obtain ⟨n2, e2, s2, h2, hb2, q2⟩ := (q : WK T (.exit i) κ s1 h1 Q)
        cases n2 with
        | zero => cases hb2
        | succ n2 => simp only [evC] at hb2; cases hb2; exact q2
      | ret => exact ⟨n + 1, _, _, _, by simp only [evC, hb], q⟩
  exact key m 0 s h (by omega) h0 (fun _ _ => rfl) (Grow.refl h)

/-- The loop that a range over a slice or a number becomes. -/
def rangeC (ti tn tb tc i0 i1 : Nat) (B : CCode) : CCode :=
  .seq (.reg [⟨some tb, .bin .lss (.t ti) (.t tn), none⟩]) (.seq (.cond (.t tb) .skip (.exit i0)) (.seq (.block i1 B) (.reg [⟨some tc, .bin .add (.t ti) (.c (.int .i64 1)), none⟩, ⟨some ti, .mov (.t tc), none⟩])))

/-- What follows a range's body. -/
def rangeQ (T : Nat → Option Fun) (i0 i1 : Nat) (κ : List KF) (Q : Fr → AH → Prop) (J : Fr → AH → Prop) : EX → Fr → AH → Prop
  | .nrm, s, h => J s h
  | .exit i, s, h => if i = i1 then J s h else if i = i0 then WK T .skip κ s h Q else WK T (.exit i) κ s h Q
  | .ret, s, h => False
@[simp] theorem rangeQ_nrm {i0 i1 : Nat} {J : Fr → AH → Prop} : rangeQ T i0 i1 κ Q J .nrm s h = J s h := rfl
@[simp] theorem rangeQ_exit {i0 i1 : Nat} {J : Fr → AH → Prop} {i : Nat} : rangeQ T i0 i1 κ Q J (.exit i) s h = if i = i1 then J s h else if i = i0 then WK T .skip κ s h Q else WK T (.exit i) κ s h Q := rfl

/-- A loop over a range of n: 'J k' holds before round k. -/
theorem WK_range (hT : TGrow T) {c B : CCode} {ti tn tb tc i0 i1 : Nat} (J : Nat → Fr → AH → Prop) (n : Nat) (ws : List Nat) (hcd : c = rangeC ti tn tb tc i0 i1 B) (hw : wrIn ws c = true)
    (hti : s ti = .int .i64 0) (htn : s tn = .int .i64 (n : Nat)) (hn : n < 9223372036854775807) (hne : tb ≠ ti ∧ tb ≠ tn ∧ tc ≠ tn ∧ ti ≠ tn ∧ tn ∉ ws ∧ i1 ≠ i0)
    (hJ : ∀ k s h s', J k s h → (∀ t, t ≠ ti → t ≠ tb → t ≠ tc → s' t = s t) → J k s' h)
    (h0 : J 0 s h)
    (step : ∀ k s' h', k < n → J k s' h' → s' ti = .int .i64 (k : Nat) → (∀ t, t ∉ ws → s' t = s t) → Grow h h' → WK T B (.abs (rangeQ T i0 i1 κ Q fun s'' h'' => s'' ti = .int .i64 (k : Nat) ∧ J (k + 1) s'' h'') :: κ) s' h' Q)
    (fin : ∀ s' h', J n s' h' → (∀ t, t ∉ ws → s' t = s t) → Grow h h' → WK T .skip κ s' h' Q) : WK T (.loop c) (.block i0 :: κ) s h Q := by
  obtain ⟨d1, d2, d3, d4, d5, d6⟩ := hne
  refine WK_loop hT (fun k s' h' => s' ti = .int .i64 (k : Nat) ∧ J k s' h') n ws hw ⟨hti, h0⟩ ?_
  rintro k s' h' hk ⟨j1, j2⟩ hs hg
  have hn' : s' tn = .int .i64 (n : Nat) := (hs tn d5).trans htn
  have hwB : wrIn ws B = true := by
    subst hcd
    simp only [rangeC, wrIn, Bool.and_eq_true] at hw
    exact hw.2.2.1
  have hwt : tb ∈ ws ∧ ti ∈ ws ∧ tc ∈ ws := by
    subst hcd
    simp only [rangeC, wrIn, opsIn, Bool.and_eq_true, List.contains_iff_mem] at hw
    exact ⟨hw.1.1, hw.2.2.2.2.1, hw.2.2.2.1⟩
  have hput : ∀ b, (Fr.know (Fr.put s' (some tb) (.bool b)) tb b) = Fr.put s' (some tb) (.bool b) := fun b => Fr.know_eq (by simp [Fr.put])
  rw [hcd]
  unfold rangeC
  rw [WK_seq, WK_reg, WR_bin, val_t, val_t, j1, hn', evBin_lss, opV_some, WR_nil, WK_skip_seq, WK_seq, WK_cond_t]
  have hv : (Fr.put s' (some tb) (.bool (decide (((k : Nat) : Int) < ((n : Nat) : Int))))) tb = .bool (decide (((k : Nat) : Int) < ((n : Nat) : Int))) := by simp [Fr.put]
  rw [hv]
  by_cases hlt : k < n
  · have : decide (((k : Nat) : Int) < ((n : Nat) : Int)) = true := by simpa using hlt
    rw [this, condS_true, hput, WK_skip_seq, WK_seq, WK_block]
    have jb : J k (Fr.put s' (some tb) (.bool true)) h' := hJ _ _ _ _ j2 fun t _ h2 _ => by simp [Fr.put, h2]
    have sb : ∀ t, t ∉ ws → Fr.put s' (some tb) (.bool true) t = s t := fun t ht => by
      have : t ≠ tb := fun q => ht (q ▸ hwt.1)
      simp [Fr.put, this, hs t ht]
    obtain ⟨m, e1, s1, h1, hb, q⟩ := step k _ h' hlt jb (by simp [Fr.put, Ne.symm d1, j1]) sb hg
    have hs1 : s1 tn = .int .i64 (n : Nat) := by rw [evC_frame _ _ _ _ _ _ _ hwB hb tn d5, sb tn d5, htn]
    have inc : ∀ (κ' : List KF), s1 ti = .int .i64 (k : Nat) ∧ J (k + 1) s1 h1 → WC T (.reg [⟨some tc, .bin .add (.t ti) (.c (.int .i64 1)), none⟩, ⟨some ti, .mov (.t tc), none⟩]) s1 h1 (kQ T Q (.abs (roundQ T (.block i0 :: κ) Q fun s'' h'' => k < n ∧ s'' ti = .int .i64 ((k + 1 : Nat) : Int) ∧ J (k + 1) s'' h'') :: .block i0 :: κ)) := by
      rintro κ' ⟨a1, a2⟩
      show WK T _ _ s1 h1 Q
      rw [WK_reg, WR_bin, val_t, val_c, a1, evBin_add, w64_nat1 (by omega), opV_some, WR_mov, val_t, opV_some, WR_nil, WK_skip_abs, roundQ_nrm]
      refine ⟨hlt, by simp [Fr.put], hJ _ _ _ _ a2 fun t h1 h2 h3 => by simp [Fr.put, h1, h3]⟩
    refine ⟨m, e1, s1, h1, hb, ?_⟩
    cases e1 with
    | nrm => exact inc κ q
    | exit i =>
      simp only [kQ, rangeQ] at q ⊢
      by_cases hi : i = i1
      · rw [if_pos hi] at q ⊢
        exact inc κ q
      · rw [if_neg hi] at q ⊢
        show WK T (.exit i) (.block i0 :: κ) s1 h1 Q
        rw [WK_exit_block]
        exact q
    | ret => exact q
  · have : decide (((k : Nat) : Int) < ((n : Nat) : Int)) = false := by simp only [decide_eq_false_iff_not]; omega
    have hkn : k = n := by omega
    subst hkn
    rw [this, condS_false, hput, WK_exit_seq, WK_exit_abs, roundQ_exit, WK_exit_block, if_pos rfl]
    refine fin _ _ (hJ _ _ _ _ j2 fun t _ h2 _ => by simp [Fr.put, h2]) (fun t ht => ?_) hg
    have : t ≠ tb := fun q => ht (q ▸ hwt.1)
    simp [Fr.put, this, hs t ht]
end
end Go.Ev
namespace Go.Ev
section
variable {α : Type} {l : List α} {p : α → Bool} {k : Nat}
theorem all_take_succ (hk : k < l.length) : (l.take (k + 1)).all p = ((l.take k).all p && p (l[k]'hk)) := by
  rw [List.take_succ_eq_append_getElem hk, List.all_append]; simp
theorem all_fails (hk : k < l.length) (h : p (l[k]'hk) = false) : l.all p = false := by
  rw [List.all_eq_false]
  exact ⟨_, List.getElem_mem hk, by simp [h]⟩
theorem any_take_succ (hk : k < l.length) : (l.take (k + 1)).any p = ((l.take k).any p || p (l[k]'hk)) := by
  rw [List.take_succ_eq_append_getElem hk, List.any_append]; simp
theorem any_holds (hk : k < l.length) (h : p (l[k]'hk) = true) : l.any p = true := List.any_eq_true.2 ⟨_, List.getElem_mem hk, h⟩
theorem take_succ' (hk : k < l.length) : l.take (k + 1) = l.take k ++ [l[k]'hk] := List.take_succ_eq_append_getElem hk
theorem mem_take_succ {P : α → Prop} (hk : k < l.length) (hj : ∀ y ∈ l.take k, P y) (hc : P (l[k]'hk)) : ∀ y ∈ l.take (k + 1), P y := by
  rw [take_succ' hk]
  intro y hy
  rcases List.mem_append.1 hy with h | h
  · exact hj y h
  · rw [List.mem_singleton.1 h]; exact hc
theorem Grow.low {h h' : AH} (g : Grow h h') (hl : h.lo ≤ h.nx) : h'.lo ≤ h'.nx := by have := g.1; have := g.2; omega
end

/-- A pure function called on immutable values. -/
theorem callK_Pure {T : Nat → Option Fun} {f : Nat} {xs : List PV} {v : PV} {sc : Bool} {h : AH} {d : Option Nat} {r : List COper} {κ : List KF} {s : Fr} {Q : Fr → AH → Prop} (hp : Pure T f xs v sc) (hi : xs.all (imm 12) = true) :
    callK T f xs h d r κ s Q = WR T r κ (Fr.put s d v) h Q := by
  refine callK_eq (hp.ce (allO_imm (fun v hv => snap_imm h _ v hv) xs hi) (.inr ?_))
  rw [List.any_eq_false]
  intro x hx
  have : own snapDepth x = false := own_imm 12 x (List.all_eq_true.1 hi x hx)
  rw [this]
  simp
@[simp] theorem imm_int (d : Nat) (k : IntKind) (n : Int) : imm (d + 1) (.int k n) = true := Eq.trans rfl rfl
@[simp] theorem imm_bool (d : Nat) (n : Bool) : imm (d + 1) (.bool n) = true := Eq.trans rfl rfl
@[simp] theorem imm_str (d : Nat) (n : ByteArray) : imm (d + 1) (.str n) = true := Eq.trans rfl rfl
@[simp] theorem imm_sl' {α : Type} [Enc α] (d : Nat) (l : List α) (hd : Enc.dep α ≤ d) : imm (d + 1) (sl l) = true := imm_mono _ _ _ (by omega) (imm_sl l)
@[simp] theorem imm_agg (d : Nat) (cs : List PV) : imm (d + 1) (.agg cs) = cs.all (imm d) := Eq.trans rfl rfl
@[simp] theorem imm_pi (d : Nat) (cs : List PV) : imm (d + 1) (.pi cs) = cs.all (imm d) := Eq.trans rfl rfl
@[simp] theorem imm_fn (d f : Nat) (fs cs : List PV) : imm (d + 1) (.fn f fs cs) = (fs.all (imm d) && cs.all (imm d)) := Eq.trans rfl rfl
@[simp] theorem snap_pi (h : AH) (d : Nat) (cs : List PV) : snap h (d + 1) (.pi cs) = (allO (snap h d) cs).map .pi := rfl
def fn2 (f : Nat) (a b : Option (List PV)) : Option PV := match a, b with
  | some us, some ws => some (.fn f us ws)
  | _, _ => none
@[simp] theorem fn2_some (f : Nat) (a b : List PV) : fn2 f (some a) (some b) = some (.fn f a b) := rfl
@[simp] theorem snap_fn (h : AH) (d f : Nat) (fs cs : List PV) : snap h (d + 1) (.fn f fs cs) = fn2 f (allO (snap h d) fs) (allO (snap h d) cs) := by
  simp only [snap, fn2]; cases allO (snap h d) fs <;> cases allO (snap h d) cs <;> rfl
@[simp] theorem own_pi (d : Nat) (cs : List PV) : own (d + 1) (.pi cs) = cs.any (own d) := Eq.trans rfl rfl
@[simp] theorem own_fn (d f : Nat) (fs cs : List PV) : own (d + 1) (.fn f fs cs) = (fs.any (own d) || cs.any (own d)) := Eq.trans rfl rfl
end Go.Ev

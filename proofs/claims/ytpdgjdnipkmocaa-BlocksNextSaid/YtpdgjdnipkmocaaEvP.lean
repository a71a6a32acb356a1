/- Regions: whatever order is picked, the operations come to what they come to in the order of the text. -/
import Derived.Test.YtpdgjdnipkmocaaEvO
set_option linter.unusedVariables false
set_option linter.unusedSimpArgs false
namespace Go.Ev
section
variable {call : Nat → List PV → AH → Option (PV × AH)} {pu : Nat → Bool}

def WFH (h : AH) : Prop := ∀ i, h.nx ≤ i → h.blk i = none

/-- Calls leave no block beyond the count. -/
def WfOk (call : Nat → List PV → AH → Option (PV × AH)) : Prop := ∀ f as h r h', WFH h → call f as h = some (r, h') → WFH h'

theorem WFH.push {h : AH} (hw : WFH h) (B : Blk) : WFH (h.push B) := by
  intro i hi
  have : h.nx + 1 ≤ i := hi
  rw [AH.push_blk, if_neg (by omega)]
  exact hw i (by omega)
theorem WFH.set {h : AH} (hw : WFH h) {j : Nat} (hj : h.blk j ≠ none) (B : Blk) : WFH (h.set j B) := by
  intro i hi
  have h1 : h.nx ≤ i := hi
  rw [AH.set_blk]
  by_cases q : i = j
  · subst q; exact absurd (hw i h1) hj
  · rw [if_neg q]; exact hw i h1
theorem WFH.del {h : AH} (hw : WFH h) (j : Nat) : WFH (h.del j) := by
  intro i hi
  have h1 : h.nx ≤ i := hi
  rw [AH.del_blk]
  split
  · rfl
  · exact hw i h1
theorem row_ne {h : AH} {i : Nat} {cs : List PV} (e : h.row i = some cs) : h.blk i ≠ none := by rw [row_blk e]; simp

theorem wr_wf {h h' : AH} {p v : PV} {n : Nat} (hw : WFH h) (e : wr h p v n = some h') : WFH h' := by
  cases p with
  | pt i o =>
    simp only [wr] at e
    cases hr : h.row i with
    | none => simp [hr] at e
    | some cs =>
      simp only [hr] at e
      cases v <;> simp only at e <;> first
        | cases e; done
        | (split at e <;> first | (cases e; exact hw.set (row_ne hr) _) | (cases e; done))
  | _ => simp [wr] at e

theorem evOp_wf {o : COp} {s : Fr} {h h' : AH} {v : PV} (hc : WfOk call) (hw : WFH h) (e : evOp call o s h = some (v, h')) : WFH h' := by
  cases o
  case store n a x =>
    simp only [evOp] at e
    split at e
    · rename_i h2 h3; cases e; exact wr_wf hw h3
    · cases e
  case upd kd m k x =>
    simp only [evOp, evUpd] at e
    split at e
    · split at e
      · rename_i i es hb
        split at e
        · split at e <;> first | (cases e; exact hw.set (by rw [hb]; simp) _) | (cases e; done)
        · cases e
      · cases e
    · cases e
  case del kd m k =>
    simp only [evOp, evDel] at e
    split at e
    · split at e
      · cases e; exact hw
      · cases e
    · split at e
      · rename_i i es hb
        split at e
        · split at e <;> first | (cases e; exact hw.set (by rw [hb]; simp) _) | (cases e; exact hw) | (cases e; done)
        · cases e
      · cases e
    · cases e
  case clear z zs x =>
    simp only [evOp, evClear] at e
    split at e
    · split at e
      · rename_i cs hr
        split at e
        · cases e; exact hw.set (row_ne hr) _
        · cases e
      · cases e
    · cases e; exact hw
    · cases e
  case app z b x y =>
    simp only [evOp, evApp] at e
    split at e
    · split at e <;> first | (cases e; exact hw) | (cases e; done)
    · split at e
      · split at e
        · cases e; exact hw.push _
        · cases e
      · split at e
        · split at e
          · cases e; exact (hw.del _).push _
          · cases e
        · cases e
      · cases e
    · cases e
  case call f as => exact hc f _ h v h' hw e
  case callv f as =>
    simp only [evOp] at e
    split at e
    · split at e
      · exact hc _ _ h v h' hw e
      · cases e
    · cases e
  all_goals
    simp only [evOp] at e
    first
      | (cases e; done)
      | (obtain ⟨_, rfl⟩ := keep_inv e; exact hw)
      | (cases e; first | exact hw | exact hw.push _)
      | (split at e <;> first | (cases e; first | exact hw | exact hw.push _) | (cases e; done) | (split at e <;> first | (cases e; first | exact hw | exact hw.push _) | (cases e; done)))

theorem evOpB_inv {o : COp} {s : Fr} {h h' : AH} {v : PV} (e : evOpB call o s h = some (v, h')) : barOk o s h = true ∧ evOp call o s h = some (v, h') := by
  unfold evOpB at e
  split at e
  · rename_i hb; exact ⟨hb, e⟩
  · cases e

theorem evOpB_mk {o : COp} {s : Fr} {h h' : AH} {v : PV} (hb : barOk o s h = true) (e : evOp call o s h = some (v, h')) : evOpB call o s h = some (v, h') := by
  unfold evOpB; rw [if_pos hb]; exact e

theorem barOk_cls {o : COp} {s : Fr} {h : AH} (hc : cls pu o = 0 ∨ cls pu o = 1) : barOk o s h = true := by
  cases o <;> first | rfl | (rcases hc with hc | hc <;> simp [cls] at hc)

theorem evOpB_congr {o : COp} {s s' : Fr} {h : AH} (hs : ∀ t ∈ o.slots, s t = s' t) : evOpB call o s h = evOpB call o s' h := by
  have one : ∀ x : Opd, (∀ t ∈ x.slots, s t = s' t) → x.val s = x.val s' := by
    intro x hx
    cases x with
    | t n => exact hx n (by simp [Opd.slots])
    | c v => rfl
  have hb : barOk o s h = barOk o s' h := by
    cases o <;> first | rfl | (simp only [barOk, target]; rw [one _ (fun t ht => hs t (by simp [COp.slots, ht]))])
  unfold evOpB
  rw [hb, evOp_congr hs]

def evStep (call : Nat → List PV → AH → Option (PV × AH)) (o : COper) (s : Fr) (h : AH) : Option (Fr × AH) :=
  if wants o.guard s then match evOpB call o.op s h with
    | some (v, h') => some (Fr.put s o.dst v, h')
    | none => none
  else some (Fr.put s o.dst .undef, h)

theorem evStep_wf {o : COper} {s s' : Fr} {h h' : AH} (hc : WfOk call) (hw : WFH h) (e : evStep call o s h = some (s', h')) : WFH h' := by
  unfold evStep at e
  split at e
  · split at e
    · rename_i v h2 h3; cases e; exact evOp_wf hc hw (evOpB_inv h3).2
    · cases e
  · cases e; exact hw

theorem wants_congr {g : Option (Nat × Bool)} {s s' : Fr} (hs : ∀ t b, g = some (t, b) → s t = s' t) : wants g s = wants g s' := by
  cases g with
  | none => rfl
  | some p =>
    obtain ⟨t, b⟩ := p
    simp only [wants, hs t b rfl]

/-- One step: a value, a heap. -/
theorem evStep_inv {o : COper} {s s' : Fr} {h h' : AH} (e : evStep call o s h = some (s', h')) :
    ∃ v, s' = Fr.put s o.dst v ∧ ((wants o.guard s = true ∧ evOpB call o.op s h = some (v, h')) ∨ (wants o.guard s = false ∧ v = .undef ∧ h' = h)) := by
  unfold evStep at e
  split at e
  · rename_i hw
    split at e
    · rename_i v h2 h3; cases e; exact ⟨v, rfl, .inl ⟨hw, h3⟩⟩
    · cases e
  · rename_i hw
    cases e
    exact ⟨_, rfl, .inr ⟨by simpa using hw, rfl, rfl⟩⟩

theorem evStep_mk {o : COper} {s : Fr} {h h' : AH} {v : PV} (e : (wants o.guard s = true ∧ evOpB call o.op s h = some (v, h')) ∨ (wants o.guard s = false ∧ v = .undef ∧ h' = h)) :
    evStep call o s h = some (Fr.put s o.dst v, h') := by
  unfold evStep
  rcases e with ⟨h1, h2⟩ | ⟨h1, rfl, rfl⟩
  · rw [if_pos h1, h2]
  · rw [if_neg (by simp [h1])]

theorem put_get {s : Fr} {d : Option Nat} {v : PV} {t : Nat} (hd : ∀ x, d = some x → t ≠ x) : Fr.put s d v t = s t := by
  cases d with
  | none => rfl
  | some x => simp [Fr.put, hd x rfl]

theorem put_comm {s : Fr} {d e : Option Nat} {u v : PV} (hne : ∀ x y, d = some x → e = some y → x ≠ y) : Fr.put (Fr.put s d u) e v = Fr.put (Fr.put s e v) d u := by
  cases d with
  | none => rfl
  | some x =>
    cases e with
    | none => rfl
    | some y =>
      have := hne x y rfl rfl
      funext t
      simp only [Fr.put]
      by_cases h1 : t = y
      · subst h1; rw [if_pos rfl, if_neg (fun q => this q.symm), if_pos rfl]
      · rw [if_neg h1]
        by_cases h2 : t = x
        · rw [if_pos h2, if_pos h2]
        · rw [if_neg h2, if_neg h2, if_neg h1]

theorem notIn_spec {d : Option Nat} {l : List Nat} (h : notIn d l = true) : ∀ t ∈ l, ∀ x, d = some x → t ≠ x := by
  intro t ht x hx q
  subst hx q
  simp [notIn] at h
  exact h ht

/-- A step sees only its own slots. -/
theorem step_slots {o : COper} {s s2 : Fr} {h h' : AH} {v : PV} (hs : ∀ t ∈ o.reads, s t = s2 t)
    (e : (wants o.guard s = true ∧ evOpB call o.op s h = some (v, h')) ∨ (wants o.guard s = false ∧ v = .undef ∧ h' = h)) :
    (wants o.guard s2 = true ∧ evOpB call o.op s2 h = some (v, h')) ∨ (wants o.guard s2 = false ∧ v = .undef ∧ h' = h) := by
  have h1 : wants o.guard s2 = wants o.guard s := wants_congr fun t b hg => (hs t (by simp [COper.reads, hg])).symm
  have h2 : evOpB call o.op s h = evOpB call o.op s2 h := evOpB_congr fun t ht => hs t (by simp [COper.reads, ht])
  rw [h1, ← h2]
  exact e

/-- What a step of a class does to the heap. -/
theorem step_heap {o : COper} {s : Fr} {h h' : AH} {v : PV} (hp : PureOk pu call) (hw : WFH h)
    (e : (wants o.guard s = true ∧ evOpB call o.op s h = some (v, h')) ∨ (wants o.guard s = false ∧ v = .undef ∧ h' = h)) :
    (cls pu o.op = 0 → h' = h ∧ ∀ h2, (wants o.guard s = true ∧ evOpB call o.op s h2 = some (v, h2)) ∨ (wants o.guard s = false ∧ v = .undef ∧ h2 = h2)) ∧
    (cls pu o.op = 1 → h' = h ∧ ∀ h2, h.le h2 → (wants o.guard s = true ∧ evOpB call o.op s h2 = some (v, h2)) ∨ (wants o.guard s = false ∧ v = .undef ∧ h2 = h2)) ∧
    (cls pu o.op = 2 → h.le h') := by
  rcases e with ⟨h1, h2⟩ | ⟨h1, rfl, rfl⟩
  · replace h2 := (evOpB_inv h2).2
    refine ⟨fun hc => ?_, fun hc => ?_, fun hc => cls2 hp hw hc h2⟩
    · obtain ⟨a, b⟩ := cls0 hc h2
      exact ⟨a, fun h3 => .inl ⟨h1, evOpB_mk (barOk_cls (pu := pu) (.inl hc)) (b h3)⟩⟩
    · obtain ⟨a, b⟩ := cls1 hp hc h2
      exact ⟨a, fun h3 hl => .inl ⟨h1, evOpB_mk (barOk_cls (pu := pu) (.inr hc)) (b h3 hl)⟩⟩
  · exact ⟨fun _ => ⟨rfl, fun _ => .inr ⟨h1, rfl, rfl⟩⟩, fun _ => ⟨rfl, fun _ _ => .inr ⟨h1, rfl, rfl⟩⟩, fun _ i B e => e⟩

/-- Two steps that are apart, turned round. -/
theorem swap2 {x y : COper} {s s1 s2 : Fr} {h h1 h2 : AH} (hp : PureOk pu call) (hc : WfOk call) (hw : WFH h) (ha : apartC pu x y = true) (e1 : evStep call x s h = some (s1, h1)) (e2 : evStep call y s1 h1 = some (s2, h2)) :
    ∃ s1' h1', evStep call y s h = some (s1', h1') ∧ evStep call x s1' h1' = some (s2, h2) := by
  have hw1 := evStep_wf hc hw e1
  obtain ⟨vx, rfl, ex⟩ := evStep_inv e1
  obtain ⟨vy, rfl, ey⟩ := evStep_inv e2
  simp only [apartC, Bool.and_eq_true] at ha
  obtain ⟨⟨⟨a1, a2⟩, a3⟩, a4⟩ := ha
  have n1 := notIn_spec a1
  have n2 := notIn_spec a2
  have n3 : ∀ p q, x.dst = some p → y.dst = some q → p ≠ q := by
    intro p q hp hq
    rw [hp, hq] at a3
    simpa using a3
  -- y sees what it saw ahead of x
  have ey' := step_slots (s2 := s) (fun t ht => put_get (fun z hz => n1 t ht z hz)) ey
  -- x sees what it saw, behind y
  have ex' := step_slots (s2 := Fr.put s y.dst vy) (fun t ht => (put_get (fun z hz => n2 t ht z hz)).symm) ex
  obtain ⟨x0, x1, x2⟩ := step_heap hp hw ex'
  obtain ⟨y0, y1, y2⟩ := step_heap hp hw1 ey'
  have fin : ∀ h1', ((wants y.guard s = true ∧ evOpB call y.op s h = some (vy, h1')) ∨ (wants y.guard s = false ∧ vy = .undef ∧ h1' = h)) →
      ((wants x.guard (Fr.put s y.dst vy) = true ∧ evOpB call x.op (Fr.put s y.dst vy) h1' = some (vx, h2)) ∨ (wants x.guard (Fr.put s y.dst vy) = false ∧ vx = .undef ∧ h2 = h1')) →
      ∃ s1' h1', evStep call y s h = some (s1', h1') ∧ evStep call x s1' h1' = some (Fr.put (Fr.put s x.dst vx) y.dst vy, h2) := by
    intro h1' k1 k2
    refine ⟨_, h1', evStep_mk k1, ?_⟩
    rw [put_comm n3]
    exact evStep_mk k2
  simp only [okPair, Bool.or_eq_true, Bool.and_eq_true, beq_iff_eq] at a4
  rcases a4 with (q | q) | ⟨q, q' | q'⟩
  · obtain ⟨rfl, g⟩ := x0 q
    exact fin h2 ey' (g h2)
  · obtain ⟨rfl, g⟩ := y0 q
    exact fin h (g h) ex'
  · obtain ⟨rfl, g⟩ := x1 q
    obtain ⟨rfl, g'⟩ := y1 q'
    exact fin _ ey' (g _ (fun i B e => e))
  · obtain ⟨rfl, g⟩ := x1 q
    exact fin h2 ey' (g h2 (y2 q'))

def evSeq (call : Nat → List PV → AH → Option (PV × AH)) (cops : List COper) : List Nat → Fr → AH → Option (Fr × AH)
  | [], s, h => some (s, h)
  | i :: l, s, h => match cops[i]? with
    | some o => match evStep call o s h with
      | some (s', h') => evSeq call cops l s' h'
      | none => none
    | none => none

theorem evOps_step (o : COper) (r : List COper) (s : Fr) (h : AH) : evOps call (o :: r) s h = match evStep call o s h with | some (s', h') => evOps call r s' h' | none => none := by
  simp only [evOps, evStep]
  by_cases hw : wants o.guard s = true
  · simp only [hw, if_true]
    cases evOpB call o.op s h with
    | none => rfl
    | some p => rfl
  · simp only [hw, if_false, Bool.false_eq_true]

theorem evSeq_range (cops : List COper) : ∀ (r pre : List COper) (s : Fr) (h : AH), cops = pre ++ r → evOps call r s h = evSeq call cops (List.range' pre.length r.length) s h
  | [], pre, s, h, e => by simp [evOps, evSeq]
  | o :: r, pre, s, h, e => by
    have hi : cops[pre.length]? = some o := by rw [e]; simp
    rw [evOps_step, List.length_cons, List.range'_succ]
    simp only [evSeq, hi]
    cases hs : evStep call o s h with
    | none => rfl
    | some p =>
      obtain ⟨s', h'⟩ := p
      have := evSeq_range cops r (pre ++ [o]) s' h' (by rw [e]; simp)
      simpa using this

theorem move_front {cops : List COper} {i : Nat} {oi : COper} (hp : PureOk pu call) (hc : WfOk call) (hi : cops[i]? = some oi) : ∀ (pre post : List Nat) (s : Fr) (h : AH) (F : Fr × AH), WFH h →
    (∀ j ∈ pre, ∃ oj, cops[j]? = some oj ∧ apartC pu oj oi = true) → evSeq call cops (pre ++ i :: post) s h = some F → evSeq call cops (i :: (pre ++ post)) s h = some F
  | [], post, s, h, F, _, _, e => e
  | j :: pre, post, s, h, F, hw, ha, e => by
    obtain ⟨oj, hj, hap⟩ := ha j (by simp)
    simp only [List.cons_append, evSeq, hj] at e
    cases h1 : evStep call oj s h with
    | none => simp [h1] at e
    | some p =>
      obtain ⟨s1, hh1⟩ := p
      simp only [h1] at e
      have ih := move_front hp hc hi pre post s1 hh1 F (evStep_wf hc hw h1) (fun k hk => ha k (by simp [hk])) e
      simp only [evSeq, hi] at ih
      cases h2 : evStep call oi s1 hh1 with
      | none => simp [h2] at ih
      | some p =>
        obtain ⟨s2, hh2⟩ := p
        simp only [h2] at ih
        obtain ⟨s1', h1', k1, k2⟩ := swap2 hp hc hw hap h1 h2
        simp only [List.cons_append, evSeq, hi, hj, k1, k2]
        exact ih

theorem befs_spec : ∀ (l acc : List (List Nat)), (∀ i, i < acc.length → (befs acc l).getD i [] = acc.getD i []) ∧
    ∀ i, acc.length ≤ i → i < acc.length + l.length → ∀ j ∈ (befs acc l).getD i [], j ∈ l.getD (i - acc.length) [] ∨ ∃ e ∈ l.getD (i - acc.length) [], e < i ∧ j ∈ (befs acc l).getD e []
  | [], acc => by
    refine ⟨fun i _ => rfl, fun i h1 h2 => ?_⟩
    simp at h2; omega
  | es :: l, acc => by
    obtain ⟨ih1, ih2⟩ := befs_spec l (acc ++ [(es ++ es.flatMap fun e => acc.getD e []).eraseDups])
    simp only [List.length_append, List.length_singleton] at ih1 ih2
    refine ⟨fun i hi => ?_, fun i h1 h2 j hj => ?_⟩
    · have := ih1 i (by omega)
      simp only [befs]
      rw [this]
      simp [List.getD_eq_getElem?_getD, List.getElem?_append_left hi]
    · simp only [List.length_cons] at h2
      simp only [befs] at hj ⊢
      by_cases q : i = acc.length
      · subst q
        rw [ih1 acc.length (by omega)] at hj
        have e0 : (acc ++ [(es ++ es.flatMap fun e => acc.getD e []).eraseDups]).getD acc.length [] = (es ++ es.flatMap fun e => acc.getD e []).eraseDups := by simp
        rw [e0, List.mem_eraseDups] at hj
        simp only [Nat.sub_self, List.getD_cons_zero]
        rcases List.mem_append.1 hj with g | g
        · exact .inl g
        · obtain ⟨e, he, hj'⟩ := List.mem_flatMap.1 g
          have hlt : e < acc.length := by
            rcases Nat.lt_or_ge e acc.length with q | q
            · exact q
            · simp [List.getD_eq_getElem?_getD, List.getElem?_eq_none q] at hj'
          refine .inr ⟨e, he, hlt, ?_⟩
          rw [ih1 e (by omega)]
          simpa [List.getD_eq_getElem?_getD, List.getElem?_append_left hlt] using hj'
      · have := ih2 i (by omega) (by omega) j hj
        have e1 : i - acc.length = (i - (acc.length + 1)) + 1 := by omega
        rw [e1]
        simpa using this
end
end Go.Ev

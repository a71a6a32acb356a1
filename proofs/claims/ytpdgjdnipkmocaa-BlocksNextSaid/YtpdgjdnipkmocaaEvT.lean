/- Calls: the abstract machine's evaluator is sound. -/
import Derived.Test.YtpdgjdnipkmocaaEvS
set_option linter.unusedVariables false
set_option linter.unusedSimpArgs false
namespace Go.Ev
section
variable {P : Program} {pu : Nat → Bool} {T : Nat → Option Fun} {ρ : Nat → Option (Nat × Nat)} {I : Nat → Prop} {h h' : AH} {w : World} {nt : Nat} {a : Act} {s s' : Fr} {u : Value} {v : PV}

theorem allO_spec {f : PV → Option PV} : ∀ (vs us : List PV), allO f vs = some us → us.length = vs.length ∧ ∀ j (hj : j < vs.length) (hj' : j < us.length), f vs[j] = some us[j]
  | [], us, e => by cases e; exact ⟨rfl, fun j hj => absurd hj (Nat.not_lt_zero _)⟩
  | v :: vs, us, e => by
    simp only [allO] at e
    split at e
    · rename_i x xs h1 h2
      cases e
      obtain ⟨g1, g2⟩ := allO_spec vs xs h2
      refine ⟨by simp [g1], fun j hj hj' => ?_⟩
      cases j with
      | zero => exact h1
      | succ j => exact g2 j (by simpa using hj) (by simpa using hj')
    · cases e

theorem allO_mono {f g : PV → Option PV} (hfg : ∀ v u, f v = some u → g v = some u) : ∀ (vs us : List PV), allO f vs = some us → allO g vs = some us
  | [], us, e => e
  | v :: vs, us, e => by
    simp only [allO] at e ⊢
    split at e
    · rename_i x xs h1 h2
      rw [hfg _ _ h1, allO_mono hfg vs xs h2]
      exact e
    · cases e

theorem snap_le (hl : h.le h') : ∀ (d : Nat) (v u : PV), snap h d v = some u → snap h' d v = some u
  | 0, _, _, e => by cases e
  | d + 1, v, u, e => by
    have ih := snap_le hl d
    have ihm : ∀ {vs us : List PV}, allO (snap h d) vs = some us → allO (snap h' d) vs = some us := fun e => allO_mono ih _ _ e
    cases v
    case sl n cs =>
      simp only [snap, Option.map_eq_some_iff] at e ⊢
      obtain ⟨us, e1, e2⟩ := e
      exact ⟨us, ihm e1, e2⟩
    case pi cs =>
      simp only [snap, Option.map_eq_some_iff] at e ⊢
      obtain ⟨us, e1, e2⟩ := e
      exact ⟨us, ihm e1, e2⟩
    case agg cs =>
      simp only [snap, Option.map_eq_some_iff] at e ⊢
      obtain ⟨us, e1, e2⟩ := e
      exact ⟨us, ihm e1, e2⟩
    case tup cs =>
      simp only [snap, Option.map_eq_some_iff] at e ⊢
      obtain ⟨us, e1, e2⟩ := e
      exact ⟨us, ihm e1, e2⟩
    case rf z i o n =>
      simp only [snap] at e ⊢
      cases hr : h.row i with
      | none => simp [hr] at e
      | some cs =>
        simp only [hr] at e
        simp only [row_le hl hr]
        split at e
        · rename_i hle
          rw [if_pos hle]
          simp only [Option.map_eq_some_iff] at e ⊢
          obtain ⟨us, e1, e2⟩ := e
          exact ⟨us, ihm e1, e2⟩
        · cases e
    case pt i o =>
      simp only [snap] at e ⊢
      cases hr : h.row i with
      | none => simp [hr] at e
      | some cs =>
        simp only [hr] at e
        simp only [row_le hl hr]
        simp only [Option.map_eq_some_iff] at e ⊢
        obtain ⟨us, e1, e2⟩ := e
        exact ⟨us, ihm e1, e2⟩
    case fn f fs cs =>
      simp only [snap] at e ⊢
      split at e
      · rename_i us ws e1 e2
        rw [ihm e1, ihm e2]
        exact e
      · cases e
    all_goals exact e

theorem snap_one : ∀ (d : Nat) (v u : PV), snap h d v = some u → v.one = true → u.one = true
  | 0, _, _, e, _ => by cases e
  | d + 1, v, u, e, h1 => by
    cases v <;> simp only [snap] at e <;> first
      | (cases h1; done)
      | (cases e; rfl)
      | (cases e; done)
      | (simp only [Option.map_eq_some_iff] at e; obtain ⟨us, _, rfl⟩ := e; rfl)
      | (split at e <;> first | (cases e; rfl) | (cases e; done) | (simp only [Option.map_eq_some_iff] at e; obtain ⟨us, _, rfl⟩ := e; rfl) | (split at e <;> first | (simp only [Option.map_eq_some_iff] at e; obtain ⟨us, _, rfl⟩ := e; rfl) | (cases e; done)))

/-- Immutable copies stand for the same values. -/
theorem snap_ok {Z : Nat → Prop} (hs : SR ρ I h w) : ∀ (d : Nat) (u : Value) (v v' : PV), snap h d v = some v' → (noImm h d v = true ∨ ∀ b, I b → Z b) → (own d v = false ∨ ∀ i b o, h.blk i ≠ none → ρ i = some (b, o) → Z b) → VR ρ I w u v →
    VR (fun _ => none) Z w u v'
  | 0, _, _, _, e, _, _, _ => by cases e
  | d + 1, u, v, v', e, hI, hO, hv => by
    have ih := snap_ok (Z := Z) hs d
    have hone : ∀ {vs us : List PV}, allO (snap h d) vs = some us → (∀ x ∈ vs, x.one = true) → ∀ x ∈ us, x.one = true := by
      intro vs us e1 ho x hx
      obtain ⟨j, hj, rfl⟩ := List.mem_iff_getElem.1 hx
      obtain ⟨g1, g2⟩ := allO_spec _ _ e1
      exact snap_one d _ _ (g2 j (by omega) hj) (ho _ (List.getElem_mem _))
    cases v
    case sl n cs =>
      simp only [snap, Option.map_eq_some_iff] at e
      obtain ⟨us, e1, rfl⟩ := e
      obtain ⟨g1, g2⟩ := allO_spec _ _ e1
      cases hv with
      | sl xs hn hA hx ho =>
        by_cases hne : cs = []
        · subst hne
          have : us = [] := List.eq_nil_of_length_eq_zero (by simpa using g1)
          subst this
          exact .sl xs hn (fun q => absurd rfl q) (fun j hj => absurd hj (Nat.not_lt_zero _)) (fun x hx => by cases hx)
        · have hI' : ∀ b, I b → Z b := by
            rcases hI with q | q
            · simp only [noImm, List.isEmpty_iff] at q; exact absurd q hne
            · exact q
          refine .sl xs hn (fun _ => ?_) (fun j hj => ?_) (hone e1 ho)
          · obtain ⟨b, o, rfl, hb, hc⟩ := hA hne
            exact ⟨b, o, rfl, hI' b hb, fun j hj => hc j (by omega)⟩
          · exact ih _ _ _ (g2 j (by omega) hj) (.inr hI') (by
              rcases hO with q | q
              · left
                simp only [own, List.any_eq_false] at q
                have := q cs[j] (List.getElem_mem _)
                simpa using this
              · exact .inr q) (hx j (by omega))
    case emp =>
      simp only [snap] at e
      cases e
      cases hv
      exact .sl (fun _ => undef) (Nat.le_refl _) (fun q => absurd rfl q) (fun j hj => absurd hj (Nat.not_lt_zero _)) (fun x hx => by cases hx)
    case rf z i o n =>
      have hO' : ∀ i b o, h.blk i ≠ none → ρ i = some (b, o) → Z b := by
        rcases hO with q | q
        · cases q
        · exact q
      simp only [snap] at e
      cases hr : h.row i with
      | none => simp [hr] at e
      | some cs =>
        simp only [hr] at e
        split at e
        · rename_i hle
          simp only [Option.map_eq_some_iff] at e
          obtain ⟨us, e1, rfl⟩ := e
          obtain ⟨g1, g2⟩ := allO_spec _ _ e1
          have hlen : us.length = n * z := by rw [g1]; simp; omega
          cases hv with
          | rf0 =>
            have : us = [] := List.eq_nil_of_length_eq_zero (by omega)
            subst this
            exact .sl (fun _ => undef) (Nat.le_refl _) (fun q => absurd rfl q) (fun j hj => absurd hj (Nat.not_lt_zero _)) (fun x hx => by cases hx)
          | rf hρ hn hw hc =>
            rename_i b o' c C T f
            obtain ⟨C2, T2, k1, k2, k3, k4⟩ := own_row hs (row_blk hr) hρ
            refine .sl (fun j => C2.getD (o' + (o + j)) undef) hn (fun _ => ⟨b, o' + o, rfl, hO' i b o' (by rw [row_blk hr]; simp) hρ, fun j hj => ?_⟩) (fun j hj => ?_) (hone e1 fun x hx => k4 x (List.mem_of_mem_drop (List.mem_of_mem_take hx)))
            · simp only [World.cell?, k1]
              simp [Array.getD, Nat.add_assoc, show o' + (o + j) < C2.size by omega]
            · have hj2 : j < ((cs.drop o).take (n * z)).length := by omega
              have hvj := k3 (o + j) (by omega)
              have e3 : ((cs.drop o).take (n * z))[j] = cs[o + j]'(by omega) := by rw [List.getElem_take, List.getElem_drop]
              have e4 := g2 j hj2 hj
              refine ih _ _ _ e4 ?_ ?_ (by rw [e3]; exact hvj)
              · rcases hI with q | q
                · left
                  simp only [noImm, hr, List.all_eq_true] at q
                  exact q _ (List.getElem_mem _)
                · exact .inr q
              · exact .inr hO'
        · cases e
    case pt i o =>
      have hO' : ∀ i b o, h.blk i ≠ none → ρ i = some (b, o) → Z b := by
        rcases hO with q | q
        · cases q
        · exact q
      simp only [snap] at e
      cases hr : h.row i with
      | none => simp [hr] at e
      | some cs =>
        simp only [hr, Option.map_eq_some_iff] at e
        obtain ⟨us, e1, rfl⟩ := e
        obtain ⟨g1, g2⟩ := allO_spec _ _ e1
        cases hv with
        | pt hρ =>
          rename_i b o'
          obtain ⟨C2, T2, k1, k2, k3, k4⟩ := own_row hs (row_blk hr) hρ
          simp only [List.length_drop] at g1
          refine .pi (fun j => C2.getD (o' + (o + j)) undef) (hO' i b o' (by rw [row_blk hr]; simp) hρ) (fun j hj => ?_) (fun j hj => ?_) (hone e1 fun x hx => k4 x (List.mem_of_mem_drop hx))
          · simp only [World.cell?, k1]
            simp [Array.getD, Nat.add_assoc, show o' + (o + j) < C2.size by omega]
          · have hvj := k3 (o + j) (by omega)
            have hj2 : j < (cs.drop o).length := by simp; omega
            have e3 : (cs.drop o)[j] = cs[o + j]'(by omega) := by rw [List.getElem_drop]
            refine ih _ _ _ (g2 j hj2 hj) ?_ (.inr hO') (by rw [e3]; exact hvj)
            rcases hI with q | q
            · left
              simp only [noImm, hr, List.all_eq_true] at q
              exact q _ (List.getElem_mem _)
            · exact .inr q
    case pi cs =>
      simp only [snap, Option.map_eq_some_iff] at e
      obtain ⟨us, e1, rfl⟩ := e
      obtain ⟨g1, g2⟩ := allO_spec _ _ e1
      have hI' : ∀ b, I b → Z b := by
        rcases hI with q | q
        · simp [noImm] at q
        · exact q
      cases hv with
      | pi xs hb hc hx ho =>
        refine .pi xs (hI' _ hb) (fun j hj => hc j (by omega)) (fun j hj => ?_) (hone e1 ho)
        exact ih _ _ _ (g2 j (by omega) hj) (.inr hI') (by
          rcases hO with q | q
          · left
            simp only [own, List.any_eq_false] at q
            have := q cs[j] (List.getElem_mem _)
            simpa using this
          · exact .inr q) (hx j (by omega))
    case fn f fs cs =>
      simp only [snap] at e
      split at e
      · rename_i us ws e1 e2
        cases e
        obtain ⟨g1, g2⟩ := allO_spec _ _ e1
        obtain ⟨g3, g4⟩ := allO_spec _ _ e2
        cases hv with
        | fn q1 q2 q3 q4 =>
          refine .fn (by omega) (by omega) (fun j hj => ih _ _ _ (g2 j (by omega) hj) ?_ ?_ (q3 j (by omega))) (fun j hj => ih _ _ _ (g4 j (by omega) hj) ?_ ?_ (q4 j (by omega)))
          · rcases hI with q | q
            · left
              simp only [noImm, Bool.and_eq_true, List.all_eq_true] at q
              exact q.1 _ (List.getElem_mem _)
            · exact .inr q
          · rcases hO with q | q
            · left
              simp only [own, Bool.or_eq_false_iff, List.any_eq_false] at q
              have := q.1 _ (List.getElem_mem (h := (by omega : j < fs.length)))
              simpa using this
            · exact .inr q
          · rcases hI with q | q
            · left
              simp only [noImm, Bool.and_eq_true, List.all_eq_true] at q
              exact q.2 _ (List.getElem_mem _)
            · exact .inr q
          · rcases hO with q | q
            · left
              simp only [own, Bool.or_eq_false_iff, List.any_eq_false] at q
              have := q.2 _ (List.getElem_mem (h := (by omega : j < cs.length)))
              simpa using this
            · exact .inr q
      · cases e
    case agg cs =>
      simp only [snap, Option.map_eq_some_iff] at e
      obtain ⟨us, e1, rfl⟩ := e
      obtain ⟨g1, g2⟩ := allO_spec _ _ e1
      cases hv with
      | agg q1 q2 ho =>
        refine .agg (by omega) (fun j hj => ih _ _ _ (g2 j (by omega) hj) ?_ ?_ (q2 j (by omega))) (hone e1 ho)
        · rcases hI with q | q
          · left
            simp only [noImm, List.all_eq_true] at q
            exact q _ (List.getElem_mem _)
          · exact .inr q
        · rcases hO with q | q
          · left
            simp only [own, List.any_eq_false] at q
            have := q cs[j] (List.getElem_mem _)
            simpa using this
          · exact .inr q
    case tup cs =>
      simp only [snap, Option.map_eq_some_iff] at e
      obtain ⟨us, e1, rfl⟩ := e
      obtain ⟨g1, g2⟩ := allO_spec _ _ e1
      cases hv with
      | tup q1 q2 =>
        refine .tup (by omega) (fun j hj => ih _ _ _ (g2 j (by omega) hj) ?_ ?_ (q2 j (by omega)))
        · rcases hI with q | q
          · left
            simp only [noImm, List.all_eq_true] at q
            exact q _ (List.getElem_mem _)
          · exact .inr q
        · rcases hO with q | q
          · left
            simp only [own, List.any_eq_false] at q
            have := q cs[j] (List.getElem_mem _)
            simpa using this
          · exact .inr q
    case mp i => simp [snap] at e
    all_goals
      simp only [snap] at e
      cases e
      cases hv
      constructor

theorem evSeqWf {call : Nat → List PV → AH → Option (PV × AH)} (hc : WfOk call) : ∀ (ops : List COper) (s s' : Fr) (h h' : AH), WFH h → evOps call ops s h = some (s', h') → WFH h'
  | [], s, s', h, h', hw, e => by cases e; exact hw
  | o :: r, s, s', h, h', hw, e => by
    rw [evOps_step] at e
    cases h1 : evStep call o s h with
    | none => simp [h1] at e
    | some p =>
      obtain ⟨s1, hh1⟩ := p
      simp only [h1] at e
      exact evSeqWf hc r s1 s' hh1 h' (evStep_wf hc hw h1) e

/-- Calls leave no block beyond the count; the evaluator neither. -/
theorem evC_wf (ht : TOk P pu T) : ∀ (n : Nat), (∀ (c : CCode) (s : Fr) (h : AH) (e : EX) (s' : Fr) (h' : AH), WFH h → evC T n c s h = some (e, s', h') → WFH h') ∧ WfOk (callW T (evC T n)) := by
  intro n
  induction n with
  | zero =>
    refine ⟨fun c s h e s' h' _ ev => (by cases ev), ?_⟩
    intro f as h r h' hw e
    simp only [callW] at e
    split at e
    · rename_i p g hg
      exact (ht.prim f p g hg).1.wf as h r h' hw e
    · split at e
      · split at e
        · simp only [Option.map_eq_some_iff] at e
          obtain ⟨x, _, e2⟩ := e
          cases e2
          exact hw
        · cases e
      · split at e <;> (simp only [evC] at e; cases e)
    · cases e
  | succ n ih =>
    have hcode : ∀ (c : CCode) (s : Fr) (h : AH) (e : EX) (s' : Fr) (h' : AH), WFH h → evC T (n + 1) c s h = some (e, s', h') → WFH h' := by
      intro c s h e s' h' hw ev
      cases c with
      | skip => cases ev; exact hw
      | bad => cases ev
      | exit id => cases ev; exact hw
      | ret => cases ev; exact hw
      | reg ops =>
        simp only [evC] at ev
        split at ev
        · rename_i s1 h1 hev; cases ev; exact evSeqWf ih.2 _ _ _ _ _ hw hev
        · cases ev
      | seq x y =>
        simp only [evC] at ev
        cases h1 : evC T n x s h with
        | none => simp [h1] at ev
        | some p =>
          obtain ⟨e1, s1, hh1⟩ := p
          have w1 := ih.1 _ _ _ _ _ _ hw h1
          rw [h1] at ev
          cases e1 with
          | nrm => exact ih.1 _ _ _ _ _ _ w1 ev
          | exit i => cases ev; exact w1
          | ret => cases ev; exact w1
      | cond c x y =>
        simp only [evC] at ev
        split at ev
        · exact ih.1 _ _ _ _ _ _ hw ev
        · exact ih.1 _ _ _ _ _ _ hw ev
        · cases ev
      | block id x =>
        simp only [evC] at ev
        cases h1 : evC T n x s h with
        | none => simp [h1] at ev
        | some p =>
          obtain ⟨e1, s1, hh1⟩ := p
          have w1 := ih.1 _ _ _ _ _ _ hw h1
          rw [h1] at ev
          cases e1 <;> (cases ev; exact w1)
      | loop x =>
        simp only [evC] at ev
        cases h1 : evC T n x s h with
        | none => simp [h1] at ev
        | some p =>
          obtain ⟨e1, s1, hh1⟩ := p
          have w1 := ih.1 _ _ _ _ _ _ hw h1
          rw [h1] at ev
          cases e1 with
          | nrm => exact ih.1 _ _ _ _ _ _ w1 ev
          | exit i => cases ev; exact w1
          | ret => cases ev; exact w1
    refine ⟨hcode, ?_⟩
    intro f as h r h' hw e
    simp only [callW] at e
    split at e
    · rename_i p g hg
      exact (ht.prim f p g hg).1.wf as h r h' hw e
    · rename_i c hc
      split at e
      · split at e
        · simp only [Option.map_eq_some_iff] at e
          obtain ⟨x, _, e2⟩ := e
          cases e2
          exact hw
        · cases e
      · split at e
        · split at e
          · rename_i s1 h1 hev
            simp only [Option.map_eq_some_iff] at e
            obtain ⟨r0, _, e2⟩ := e
            cases e2
            exact show WFH (h.unbar h1) from hcode _ _ h.bar _ _ h1 hw hev
          · rename_i s1 h1 hev
            simp only [Option.map_eq_some_iff] at e
            obtain ⟨r0, _, e2⟩ := e
            cases e2
            exact show WFH (h.unbar h1) from hcode _ _ h.bar _ _ h1 hw hev
          · cases e
        split at e
        · rename_i s1 h1 hev
          simp only [Option.map_eq_some_iff] at e
          obtain ⟨r0, _, e2⟩ := e
          cases e2
          exact hcode _ _ _ _ _ _ hw hev
        · rename_i s1 h1 hev
          simp only [Option.map_eq_some_iff] at e
          obtain ⟨r0, _, e2⟩ := e
          cases e2
          exact hcode _ _ _ _ _ _ hw hev
        · cases e
    · cases e

def resFn (tmps : Array Value) : ResultVar → Sem Value
  | .tmp t => pure (tmps.getD t undef)
  | .cell x t => do loadVar t (← asAddr (tmps.getD x undef))

theorem results_eq (fn : Func) (tmps : Array Value) : results fn tmps = (do let vs ← fn.results.mapM (resFn tmps); pure (if h : vs.size = 1 then vs[0] else .tuple vs)) := by
  unfold results
  have : (fun x => match x with
    | .tmp t => pure (tmps.getD t undef)
    | .cell a t => do loadVar t (← asAddr (tmps.getD a undef)) : ResultVar → Sem Value) = resFn tmps := by
    funext x
    cases x <;> rfl
  exact congrArg (fun f => (do let vs ← fn.results.mapM f; pure (if h : vs.size = 1 then vs[0] else .tuple vs) : Sem Value)) this

theorem resAll_ok {fs : List ResultVar} : ∀ {rs : List CRes} {vs : List PV}, resTmps P fs = some rs → resAll h s rs = some vs → FR ρ I w nt a s → SR ρ I h w →
    ∃ us : List Value, (fs.mapM (resFn a.tmps)).run P w = .ok us w ∧ us.length = vs.length ∧ ∀ j (hj : j < vs.length), VR ρ I w (us.getD j undef) vs[j] := by
  induction fs with
  | nil =>
    intro rs vs e1 e2 hf hs
    cases e1
    cases e2
    exact ⟨[], by simp, rfl, fun j hj => absurd hj (Nat.not_lt_zero _)⟩
  | cons f fs ih =>
    intro rs vs e1 e2 hf hs
    have fin : ∀ {r : CRes} {rs' : List CRes} {x : Value}, resTmps P fs = some rs' → resAll h s (r :: rs') = some vs →
        (∀ v, resAt h s r = some v → ∃ x, (resFn a.tmps f).run P w = .ok x w ∧ VR ρ I w x v) →
        ∃ us : List Value, ((f :: fs).mapM (resFn a.tmps)).run P w = .ok us w ∧ us.length = vs.length ∧ ∀ j (hj : j < vs.length), VR ρ I w (us.getD j undef) vs[j] := by
      intro r rs' x h1 h2 h3
      simp only [resAll] at h2
      split at h2
      · rename_i v vs' h4 h5
        cases h2
        obtain ⟨x, k1, k2⟩ := h3 v h4
        obtain ⟨us, g1, g2, g3⟩ := ih h1 h5 hf hs
        refine ⟨x :: us, ?_, by simp [g2], fun j hj => ?_⟩
        · rw [List.mapM_cons, Sem.run_bind, k1, Result.andThen_ok, Sem.run_bind, g1, Result.andThen_ok]
          rfl
        · cases j with
          | zero => exact k2
          | succ j => exact g3 j (by simpa using hj)
      · cases h2
    cases f with
    | tmp t =>
      simp only [resTmps, Option.map_eq_some_iff] at e1
      obtain ⟨rs', h1, rfl⟩ := e1
      refine fin (x := undef) h1 e2 fun v hv => ?_
      cases hv
      exact ⟨_, rfl, hf.slot t⟩
    | cell y t =>
      simp only [resTmps] at e1
      split at e1
      · rename_i g n rest hg hn hr
        cases e1
        refine fin (x := undef) hr e2 fun v hv => ?_
        have hl : (if g then (rds h (s y) n).map .agg else rd1 h (s y)) = some v := by
          cases g with
          | true => exact hv
          | false => exact hv
        obtain ⟨x, k1, k2⟩ := load_ok (P := P) hg hn hs (hf.slot y) hl
        refine ⟨x, ?_, k2⟩
        have hp : ∃ ad, a.tmps.getD y undef = .pointer (some ad) := by
          have hv' := hf.slot y
          cases g with
          | true =>
            simp only [resAt, Option.map_eq_some_iff] at hv
            obtain ⟨ds, h1, _⟩ := hv
            obtain ⟨b, o, _, h2, _⟩ := ptr_cells hs hv' h1
            exact ⟨_, h2⟩
          | false =>
            simp only [resAt] at hv
            obtain ⟨b, o, _, h2, _⟩ := ptr_cell hs hv' hv
            exact ⟨_, h2⟩
        obtain ⟨ad, hp⟩ := hp
        show (do loadVar t (← asAddr (a.tmps.getD y Go.undef)) : Sem Value).run P w = .ok x w
        rw [hp] at k1 ⊢
        simp only [Instr.loadAt, Instr.sureAddr, Sem.run_bind, Sem.run_pure, Result.andThen_ok] at k1
        simp only [asAddr, Sem.run_bind, Sem.run_pure, Result.andThen_ok]
        exact k1
      · cases e1

theorem results_ok {fn : Func} {rs : List CRes} {r : PV} (h1 : resTmps P fn.results.toList = some rs) (h2 : resOf rs s h = some r) (hf : FR ρ I w nt a s) (hs : SR ρ I h w) :
    ∃ u, (results fn a.tmps).run P w = .ok u w ∧ VR ρ I w u r := by
  unfold resOf at h2
  have key : ∀ vs, resAll h s rs = some vs → ∃ us : Array Value, us.size = vs.length ∧ (∀ j (hj : j < vs.length), VR ρ I w (us.getD j undef) vs[j]) ∧
      (results fn a.tmps).run P w = .ok (if h : us.size = 1 then us[0] else .tuple us) w := by
    intro vs hvs
    obtain ⟨us, g1, g2, g3⟩ := resAll_ok (P := P) h1 hvs hf hs
    refine ⟨us.toArray, by simpa using g2, fun j hj => by have := g3 j hj; simpa [Array.getD_eq_getD_getElem?] using this, ?_⟩
    rw [results_eq, Array.mapM_eq_mapM_toList]
    simp only [Sem.run_bind, Sem.run_map]
    have : (fn.results.toList.mapM (resFn a.tmps)).run P w = .ok us w := g1
    rw [this]
    rfl
  split at h2
  · rename_i v hv
    cases h2
    obtain ⟨us, k1, k2, k3⟩ := key _ hv
    have k1' : us.size = 1 := k1
    refine ⟨_, k3, ?_⟩
    rw [dif_pos k1']
    have := k2 0 (by simp)
    simpa [Array.getD, k1'] using this
  · rename_i vs hne hv
    cases h2
    obtain ⟨us, k1, k2, k3⟩ := key _ hv
    have k1' : us.size ≠ 1 := by
      rw [k1]
      intro q
      obtain ⟨x, rfl⟩ := List.length_eq_one_iff.1 q
      exact hne x rfl
    refine ⟨_, k3, ?_⟩
    rw [dif_neg k1']
    exact .tup k1 k2
  · cases h2

theorem initFr_rel {us : Array Value} {as : List PV} {nt : Nat} (hv : VRL ρ I w us as) : FR ρ I w nt { tmps := us ++ Array.replicate (nt - us.size) undef, defers := [] } (initFr as) := by
  obtain ⟨h1, h2⟩ := hv
  refine ⟨by simp; omega, rfl, fun t => ?_⟩
  unfold initFr
  by_cases q : t < as.length
  · have e1 : (us ++ Array.replicate (nt - us.size) undef).getD t undef = us.getD t undef := by
      simp only [Array.getD_eq_getD_getElem?, Array.getElem?_append, if_pos (show t < us.size by omega)]
    rw [e1]
    have e2 : as.getD t .undef = as[t] := by simp [List.getD, List.getElem?_eq_getElem q]
    rw [e2]
    exact h2 t q
  · have e1 : (us ++ Array.replicate (nt - us.size) undef).getD t undef = undef := by
      simp only [Array.getD_eq_getD_getElem?, Array.getElem?_append, if_neg (show ¬ t < us.size by omega), Array.getElem?_replicate]
      split <;> rfl
    rw [e1]
    have e2 : as.getD t .undef = .undef := by simp [List.getD, List.getElem?_eq_none (Nat.le_of_not_lt q)]
    rw [e2]
    exact VR.undef

theorem KL.rfl' (h : AH) : KL h h := ⟨rfl, Nat.le_refl _, fun _ _ _ => rfl⟩
theorem KL.trans {h h1 h2 : AH} (a : KL h h1) (b : KL h1 h2) : KL h h2 := by
  refine ⟨b.1.trans a.1, Nat.le_trans a.2.1 b.2.1, fun hl i hi => ?_⟩
  have h1l : h1.lo ≤ h1.nx := by rw [a.1]; exact Nat.le_trans hl a.2.1
  rw [b.2.2 h1l i (by rw [a.1]; exact hi), a.2.2 hl i hi]
theorem KL.push (h : AH) (B : Blk) : KL h (h.push B) :=
  ⟨rfl, Nat.le_succ _, fun hl i hi => by rw [AH.push_blk, if_neg (by omega)]⟩
theorem KL.set (h : AH) {j : Nat} (hj : h.lo ≤ j) (B : Blk) : KL h (h.set j B) :=
  ⟨rfl, Nat.le_refl _, fun hl i hi => by rw [AH.set_blk, if_neg (by omega)]⟩
theorem KL.del (h : AH) {j : Nat} (hj : h.lo ≤ j) : KL h (h.del j) :=
  ⟨rfl, Nat.le_refl _, fun hl i hi => by rw [AH.del_blk, if_neg (by omega)]⟩

def KlOk (call : Nat → List PV → AH → Option (PV × AH)) : Prop := ∀ f as h r h', call f as h = some (r, h') → KL h h'

theorem evOpB_kl {call : Nat → List PV → AH → Option (PV × AH)} {o : COp} (hc : KlOk call) (e : evOpB call o s h = some (v, h')) : KL h h' := by
  have hb := (evOpB_inv e).1
  replace e := (evOpB_inv e).2
  cases o
  case store n a x =>
    simp only [barOk, target] at hb
    simp only [evOp] at e
    split at e
    · rename_i h2 h3
      cases e
      generalize a.val s = p at hb h3
      cases p with
      | pt i o =>
        simp only [lowOk, decide_eq_true_eq] at hb
        simp only [wr] at h3
        cases hr : h.row i with
        | none => simp [hr] at h3
        | some cs =>
          simp only [hr] at h3
          generalize x.val s = y at h3
          cases y <;> simp only at h3 <;> first
            | cases h3; done
            | (split at h3 <;> first | (cases h3; exact KL.set h hb _) | (cases h3; done))
      | _ => simp [wr] at h3
    · cases e
  case upd kd m k x =>
    simp only [barOk, target] at hb
    simp only [evOp, evUpd] at e
    split at e
    · rename_i i hm
      rw [hm] at hb
      simp only [lowOk, decide_eq_true_eq] at hb
      split at e
      · split at e
        · split at e <;> first | (cases e; exact KL.set h hb _) | (cases e; done)
        · cases e
      · cases e
    · cases e
  case del kd m k =>
    simp only [barOk, target] at hb
    simp only [evOp, evDel] at e
    split at e
    · split at e
      · cases e; exact KL.rfl' _
      · cases e
    · rename_i i hm
      rw [hm] at hb
      simp only [lowOk, decide_eq_true_eq] at hb
      split at e
      · split at e
        · split at e <;> first | (cases e; exact KL.set h hb _) | (cases e; exact KL.rfl' _) | (cases e; done)
        · cases e
      · cases e
    · cases e
  case clear z zs x =>
    simp only [barOk, target] at hb
    simp only [evOp, evClear] at e
    split at e
    · rename_i hm
      rw [hm] at hb
      simp only [lowOk, decide_eq_true_eq] at hb
      split at e
      · split at e
        · cases e; exact KL.set h hb _
        · cases e
      · cases e
    · cases e; exact KL.rfl' _
    · cases e
  case app z b x y =>
    simp only [barOk, target] at hb
    simp only [evOp, evApp] at e
    split at e
    · split at e <;> first | (cases e; exact KL.rfl' _) | (cases e; done)
    · split at e
      · split at e
        · cases e; exact KL.push h _
        · cases e
      · rename_i hm
        rw [hm] at hb
        simp only [lowOk, decide_eq_true_eq] at hb
        split at e
        · split at e
          · cases e; exact (KL.del h hb).trans (KL.push _ _)
          · cases e
        · cases e
      · cases e
    · cases e
  case call f as => exact hc f _ h v h' e
  case callv f as =>
    simp only [evOp] at e
    split at e
    · split at e
      · exact hc _ _ h v h' e
      · cases e
    · cases e
  all_goals
    simp only [evOp] at e
    first
      | (cases e; done)
      | (obtain ⟨_, rfl⟩ := keep_inv e; exact KL.rfl' _)
      | (cases e; first | exact KL.rfl' _ | exact KL.push h _)
      | (split at e <;> first | (cases e; first | exact KL.rfl' _ | exact KL.push h _) | (cases e; done) | (split at e <;> first | (cases e; first | exact KL.rfl' _ | exact KL.push h _) | (cases e; done)))

theorem evOps_kl {call : Nat → List PV → AH → Option (PV × AH)} (hc : KlOk call) : ∀ (ops : List COper) (s s' : Fr) (h h' : AH), evOps call ops s h = some (s', h') → KL h h'
  | [], s, s', h, h', e => by cases e; exact KL.rfl' _
  | o :: r, s, s', h, h', e => by
    rw [evOps_step] at e
    cases h1 : evStep call o s h with
    | none => simp [h1] at e
    | some p =>
      obtain ⟨s1, hh1⟩ := p
      simp only [h1] at e
      refine KL.trans ?_ (evOps_kl hc r s1 s' hh1 h' e)
      obtain ⟨v, _, q⟩ := evStep_inv h1
      rcases q with ⟨_, q⟩ | ⟨_, _, rfl⟩
      · exact evOpB_kl hc q
      · exact KL.rfl' _

theorem callW_kl (ht : TOk P pu T) {run : CCode → Fr → AH → Option (EX × Fr × AH)} (hr : ∀ c s h e s' h', run c s h = some (e, s', h') → KL h h') : KlOk (callW T run) := by
  intro f as h r h' e
  simp only [callW] at e
  split at e
  · rename_i p g hg
    exact (ht.prim f p g hg).1.kl as h r h' e
  · split at e
    · split at e
      · simp only [Option.map_eq_some_iff] at e
        obtain ⟨x, _, e2⟩ := e
        cases e2
        exact KL.rfl' _
      · cases e
    · split at e
      · have key : ∀ h1, KL h.bar h1 → KL h (h.unbar h1) := fun h1 k => ⟨rfl, k.2.1, fun hl i hi => k.2.2 (Nat.le_refl _) i (Nat.lt_of_lt_of_le hi hl)⟩
        split at e
        · rename_i s1 h1 hev
          simp only [Option.map_eq_some_iff] at e
          obtain ⟨r0, _, e2⟩ := e
          cases e2
          exact key _ (hr _ _ _ _ _ _ hev)
        · rename_i s1 h1 hev
          simp only [Option.map_eq_some_iff] at e
          obtain ⟨r0, _, e2⟩ := e
          cases e2
          exact key _ (hr _ _ _ _ _ _ hev)
        · cases e
      · split at e
        · rename_i s1 h1 hev
          simp only [Option.map_eq_some_iff] at e
          obtain ⟨r0, _, e2⟩ := e
          cases e2
          exact hr _ _ _ _ _ _ hev
        · rename_i s1 h1 hev
          simp only [Option.map_eq_some_iff] at e
          obtain ⟨r0, _, e2⟩ := e
          cases e2
          exact hr _ _ _ _ _ _ hev
        · cases e
  · cases e

theorem evC_kl (ht : TOk P pu T) : ∀ (n : Nat) (c : CCode) (s : Fr) (h : AH) (e : EX) (s' : Fr) (h' : AH), evC T n c s h = some (e, s', h') → KL h h' := by
  intro n
  induction n with
  | zero => intro c s h e s' h' ev; cases ev
  | succ n ih =>
    intro c s h e s' h' ev
    cases c with
    | skip => cases ev; exact KL.rfl' _
    | bad => cases ev
    | exit id => cases ev; exact KL.rfl' _
    | ret => cases ev; exact KL.rfl' _
    | reg ops =>
      simp only [evC] at ev
      split at ev
      · rename_i s1 h1 hev; cases ev; exact evOps_kl (callW_kl ht ih) _ _ _ _ _ hev
      · cases ev
    | seq x y =>
      simp only [evC] at ev
      cases h1 : evC T n x s h with
      | none => simp [h1] at ev
      | some p =>
        obtain ⟨e1, s1, hh1⟩ := p
        have w1 := ih _ _ _ _ _ _ h1
        rw [h1] at ev
        cases e1 with
        | nrm => exact w1.trans (ih _ _ _ _ _ _ ev)
        | exit i => cases ev; exact w1
        | ret => cases ev; exact w1
    | cond c x y =>
      simp only [evC] at ev
      split at ev
      · exact ih _ _ _ _ _ _ ev
      · exact ih _ _ _ _ _ _ ev
      · cases ev
    | block id x =>
      simp only [evC] at ev
      cases h1 : evC T n x s h with
      | none => simp [h1] at ev
      | some p =>
        obtain ⟨e1, s1, hh1⟩ := p
        have w1 := ih _ _ _ _ _ _ h1
        rw [h1] at ev
        cases e1 <;> (cases ev; exact w1)
    | loop x =>
      simp only [evC] at ev
      cases h1 : evC T n x s h with
      | none => simp [h1] at ev
      | some p =>
        obtain ⟨e1, s1, hh1⟩ := p
        have w1 := ih _ _ _ _ _ _ h1
        rw [h1] at ev
        cases e1 with
        | nrm => exact w1.trans (ih _ _ _ _ _ _ ev)
        | exit i => cases ev; exact w1
        | ret => cases ev; exact w1

theorem pureOk (ht : TOk P pu T) (n : Nat) : PureOk pu (callW T (evC T n)) := by
  refine ⟨?_, fun f as h r h' hf hw e => ?_⟩
  rotate_left
  · unfold callW at e
    split at e
    · rename_i p g hg
      exact (ht.prim f p g hg).2.2 hf as h r h' hw e
    · rename_i c hc
      obtain ⟨ow, hcomp⟩ := ht.code f c hc
      obtain ⟨_, _, _, _, _, _, _, _, hx⟩ := compFn_inv hcomp
      have hext : c.ext = true := by rw [hx]; exact hf
      split at e
      · split at e
        · simp only [Option.map_eq_some_iff] at e
          obtain ⟨x, _, e2⟩ := e
          cases e2
          exact fun i B q => q
        · cases e
      · have key : ∀ h1 : AH, KL h.bar h1 → h.le (h.unbar h1) := by
          intro h1 k i B q
          have hi : i < h.nx := by
            rcases Nat.lt_or_ge i h.nx with g | g
            · exact g
            · rw [hw i g] at q; cases q
          exact (k.2.2 (Nat.le_refl _) i hi).trans q
        split at e
        · rename_i s1 h1 hev
          simp only [Option.map_eq_some_iff] at e
          obtain ⟨r0, _, e2⟩ := e
          cases e2
          exact key _ (evC_kl ht _ _ _ _ _ _ _ hev)
        · rename_i s1 h1 hev
          simp only [Option.map_eq_some_iff] at e
          obtain ⟨r0, _, e2⟩ := e
          cases e2
          exact key _ (evC_kl ht _ _ _ _ _ _ _ hev)
        · cases e
    · cases e
  intro f as h r h' hf e
  unfold callW at e ⊢
  split at e
  · rename_i p g hg
    obtain ⟨h1, h2, _⟩ := ht.prim f p g hg
    obtain ⟨k1, k2⟩ := h1.pure (h2 hf) as h r h' e
    exact ⟨k1, fun h3 hl => k2 h3 hl⟩
  · rename_i c hc
    obtain ⟨ow, hcomp⟩ := ht.code f c hc
    obtain ⟨_, _, _, _, _, _, _, hp, _⟩ := compFn_inv hcomp
    have hpure : c.pure = true := by rw [hp]; exact hf
    simp only [hpure, if_true] at e ⊢
    cases h1 : allO (snap h snapDepth) as with
    | none => simp [h1] at e
    | some as' =>
      have key : ∀ h3, h.le h3 → allO (snap h3 snapDepth) as = some as' := fun h3 hl => allO_mono (snap_le hl snapDepth) _ _ h1
      simp only [h1, Option.map_eq_some_iff] at e
      obtain ⟨x, e1, e2⟩ := e
      cases e2
      refine ⟨rfl, fun h3 hl => ?_⟩
      simp only [key h3 hl, e1, Option.map_some]
  · cases e

theorem own_lt (hs : SR ρ I h w) {i b o : Nat} (hl : h.blk i ≠ none) (e : ρ i = some (b, o)) : b < w.heap.size := by
  cases hb : h.blk i with
  | none => exact absurd hb hl
  | some B =>
    obtain ⟨b2, o2, g, hB⟩ := hs.live i B hb
    rw [e] at g
    cases g
    have : w.heap[b]? ≠ none := by
      cases B <;> (obtain ⟨_, _, g, _⟩ := hB; rw [g]; simp)
    rcases Nat.lt_or_ge b w.heap.size with q | q
    · exact q
    · exact absurd (Array.getElem?_eq_none q) this

/-- THE EVALUATOR IS SOUND: what it comes to, the machine's call comes to. -/
theorem callOk (ht : TOk P pu T) : ∀ n, CallOk P (callW T (evC T n)) := by
  intro n
  induction n using Nat.strongRecOn with
  | _ n ih =>
    intro f as h r h' e
    unfold callW at e
    split at e
    · rename_i p g hg
      obtain ⟨h1, _⟩ := ht.prim f p g hg
      exact ⟨h1.callable, h1.calls as h r h' e⟩
    · rename_i c hc
      obtain ⟨ow, hcomp⟩ := ht.code f c hc
      obtain ⟨fn, code, hfn, hbody, hname, hres, hcb, hpu, hxu⟩ := compFn_inv hcomp
      refine ⟨⟨fn, hfn, hname, by rw [hbody]; rfl⟩, fun ρ I w us hs hv => ?_⟩
      have hsound := code_sound (P := P) (pu := pu) (T := T) n (fun m hm => ⟨ih m hm, pureOk ht m, (evC_wf ht m).2⟩) n (Nat.le_refl _) code (ow f) fn.ntmps
      split at e
      · -- a pure call
        split at e
        · rename_i as' has
          simp only [Option.map_eq_some_iff] at e
          obtain ⟨r', e1, e2⟩ := e
          obtain ⟨rfl, rfl⟩ : r' = r ∧ h = h' := by simpa using e2
          -- what may be lent
          let I0 : Nat → Prop := if as.any (own snapDepth) then fun b => b < w.heap.size else I
          have hI0 : ∀ b, I b → I0 b := by
            intro b hb
            simp only [I0]
            split
            · exact hs.inI b hb
            · exact hb
          have hI0lt : ∀ b, I0 b → b < w.heap.size := by
            intro b hb
            simp only [I0] at hb
            split at hb
            · exact hb
            · exact hs.inI b hb
          have hs0 : SR (fun _ => none) I0 AH.zero w :=
            ⟨fun i B q => (by cases q), fun i j b o o' q => absurd rfl q, fun i b o q => absurd rfl q, fun i x q => (by cases q), hI0lt⟩
          have hv0 : VRL (fun _ => none) I0 w us as' := by
            obtain ⟨g1, g2⟩ := allO_spec _ _ has
            refine ⟨by rw [hv.1, g1], fun j hj => ?_⟩
            have hj' : j < as.length := by omega
            refine snap_ok hs snapDepth _ _ _ (g2 j hj' hj) (.inr hI0) ?_ (hv.2 j hj')
            by_cases q : as.any (own snapDepth) = true
            · right
              intro i b o hl e
              simp only [I0, q, if_true]
              exact own_lt hs hl e
            · left
              simp only [Bool.not_eq_true, List.any_eq_false] at q
              have := q as[j] (List.getElem_mem _)
              simpa using this
          have fin : ∀ (e : EX) (s' : Fr) (hc' : AH), e = .nrm ∨ e = .ret → evC T n c.body (initFr as') AH.zero = some (e, s', hc') →
              (match resOf c.res s' hc' with
                | some r0 => if as.any (own snapDepth) && !noImm hc' snapDepth r0 then none else snap hc' snapDepth r0
                | none => none) = some r' → Calls P (rl f) us w (Post ρ I h w r' h) := by
            intro e s' hc' hee hev hr
            rw [hcb] at hev
            refine calls_of_wp hfn hbody (hsound _ _ e s' hc' hev _ w _ I0 _ (initFr_rel hv0) hs0 fun a' w' ρ' I' st hs' hf' => ?_)
            cases hro : resOf c.res s' hc' with
            | none => simp [hro] at hr
            | some r0 =>
              simp only [hro] at hr
              obtain ⟨u, k1, k2⟩ := results_ok (P := P) hres hro hf' hs'
              have hkeep : ∀ b, b < w.heap.size → w'.heap[b]? = w.heap[b]? := fun b hb => st.keep b hb fun i o hl _ => hl rfl
              obtain ⟨g1, g2⟩ := hs.grow (I' := fun b => I b ∨ (w.heap.size ≤ b ∧ b < w'.heap.size)) st.os st.tape st.output st.size hkeep (fun b hb => .inl hb) (fun b hb => hb.imp id fun q => q.1) (fun b hb => by
                rcases hb with q | q
                · have := hs.inI b q; have := st.size; omega
                · exact q.2)
              have hpost : Post ρ I h w r' h (.returned u) w' := by
                refine ⟨ρ, _, u, rfl, g2, g1, ?_⟩
                have hvr : VR (fun _ => none) (fun b => I b ∨ (w.heap.size ≤ b ∧ b < w'.heap.size)) w' u r' := by
                  split at hr
                  · cases hr
                  · rename_i hcond
                    refine snap_ok hs' snapDepth _ _ _ hr ?_ ?_ k2
                    · by_cases q : as.any (own snapDepth) = true
                      · left
                        simpa [q] using hcond
                      · right
                        intro b hb
                        rcases st.immNew b hb with q' | q'
                        · left
                          simp only [I0] at q'
                          rw [if_neg q] at q'
                          exact q'
                        · exact .inr ⟨q', hs'.inI b hb⟩
                    · right
                      intro i b o hl e
                      rcases st.own i b o hl e with q | ⟨j, o', q, _⟩
                      · exact .inr ⟨q, own_lt hs' hl e⟩
                      · exact absurd rfl q
                exact hvr.mono (fun i x q => by cases q) (fun b q => q) (fun b _ => rfl) (fun b C T f q => ⟨C, q, rfl⟩)
              rcases hee with rfl | rfl
              · exact ⟨hf'.defers, u, k1, hpost⟩
              · exact ⟨hf'.defers, u, k1, hpost⟩
          unfold pureRes at e1
          split at e1
          · rename_i s' hc' hev; exact fin .nrm s' hc' (.inl rfl) hev e1
          · rename_i s' hc' hev; exact fin .ret s' hc' (.inr rfl) hev e1
          · cases e1
        · cases e
      · -- in the caller's heap, which is only read
        split at e
        · have fin : ∀ (ex : EX) (s' : Fr) (h1 : AH), ex = .nrm ∨ ex = .ret → evC T n c.body (initFr as) h.bar = some (ex, s', h1) → (resOf c.res s' h1).map (fun r => (r, h.unbar h1)) = some (r, h') → Calls P (rl f) us w (Post ρ I h w r h') := by
            intro ex s' h1 hee hev hr
            simp only [Option.map_eq_some_iff] at hr
            obtain ⟨r0, hro, e2⟩ := hr
            obtain ⟨rfl, rfl⟩ : r0 = r ∧ h.unbar h1 = h' := by simpa using e2
            rw [hcb] at hev
            have hsb : SR ρ I h.bar w := ⟨hs.live, hs.inj, hs.apart, hs.nx, hs.inI⟩
            refine calls_of_wp hfn hbody (hsound _ _ ex s' h1 hev _ w ρ I _ (initFr_rel hv) hsb fun a' w' ρ' I' st hs' hf' => ?_)
            obtain ⟨u, k1, k2⟩ := results_ok (P := P) hres hro hf' hs'
            have st' : St ρ I h w ρ' I' (h.unbar h1) w' := ⟨st.ext, st.imm, st.immNew, st.os, st.tape, st.output, st.size, st.keep, st.row, st.own, st.nxle, st.low⟩
            have hs2 : SR ρ' I' (h.unbar h1) w' := ⟨hs'.live, hs'.inj, hs'.apart, hs'.nx, hs'.inI⟩
            rcases hee with rfl | rfl
            · exact ⟨hf'.defers, u, k1, ρ', I', u, rfl, st', hs2, k2⟩
            · exact ⟨hf'.defers, u, k1, ρ', I', u, rfl, st', hs2, k2⟩
          split at e
          · rename_i s' h1 hev; exact fin .nrm s' h1 (.inl rfl) hev e
          · rename_i s' h1 hev; exact fin .ret s' h1 (.inr rfl) hev e
          · cases e
        -- in the caller's heap
        have fin : ∀ (ex : EX) (s' : Fr) (hc' : AH), ex = .nrm ∨ ex = .ret → evC T n c.body (initFr as) h = some (ex, s', hc') → (resOf c.res s' hc').map (fun r => (r, hc')) = some (r, h') → Calls P (rl f) us w (Post ρ I h w r h') := by
          intro ex s' hc' hee hev hr
          simp only [Option.map_eq_some_iff] at hr
          obtain ⟨r0, hro, e2⟩ := hr
          obtain ⟨rfl, rfl⟩ : r0 = r ∧ hc' = h' := by simpa using e2
          rw [hcb] at hev
          refine calls_of_wp hfn hbody (hsound _ _ ex s' hc' hev _ w ρ I _ (initFr_rel hv) hs fun a' w' ρ' I' st hs' hf' => ?_)
          obtain ⟨u, k1, k2⟩ := results_ok (P := P) hres hro hf' hs'
          rcases hee with rfl | rfl
          · exact ⟨hf'.defers, u, k1, ρ', I', u, rfl, st, hs', k2⟩
          · exact ⟨hf'.defers, u, k1, ρ', I', u, rfl, st, hs', k2⟩
        split at e
        · rename_i s' hc' hev; exact fin .nrm s' hc' (.inl rfl) hev e
        · rename_i s' hc' hev; exact fin .ret s' hc' (.inr rfl) hev e
        · cases e
    · cases e
end
end Go.Ev

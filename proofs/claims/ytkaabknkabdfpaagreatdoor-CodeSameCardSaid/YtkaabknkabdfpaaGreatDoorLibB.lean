/- Code and calls: the abstract machine's evaluator is sound. -/
import Derived.Test.YtkaabknkabdfpaaGreatDoorLibB1
set_option linter.unusedVariables false
set_option linter.unusedSimpArgs false
namespace Go.Ev
variable [LoopSpec]
section
variable {P : Program} {pu : Nat → Bool} {T : Nat → Option Fun} {ρ : Nat → Option (Nat × Nat)} {I : Nat → Prop} {h h' : AH} {w : World} {nt : Nat} {Bo : Nat × List Deferred × Bool} {a : Act} {s s' : Fr} {u : Value} {v : PV}

def EX.to : EX → Exit
  | .nrm => .normal
  | .exit i => .exit i
  | .ret => .ret

/-- What lies below the bar is kept. -/
def KL (h h' : AH) : Prop := h'.lo = h.lo ∧ h.nx ≤ h'.nx ∧ (h.lo ≤ h.nx → ∀ i, i < h.lo → h'.blk i = h.blk i)

/-- What is asked of a library function's contract. -/
structure PrimOk (P : Program) (p : Bool) (f : Nat) (g : List PV → AH → Option (PV × AH)) : Prop where
  callable : Callable P (rl f)
  calls : ∀ as h r h', g as h = some (r, h') → ∀ ρ I w us, SR ρ I h w → VRL ρ I w us as → Calls P (rl f) us w (Post ρ I h w r h')
  wf : ∀ as h r h', WFH h → g as h = some (r, h') → WFH h'
  kl : ∀ as h r h', g as h = some (r, h') → KL h h'
  pure : p = true → ∀ as h r h', g as h = some (r, h') → h' = h ∧ ∀ h2, h.le h2 → g as h2 = some (r, h2)

structure TOk (P : Program) (pu : Nat → Bool) (T : Nat → Option Fun) : Prop where
  code : ∀ f c, T f = some (.code c) → ∃ ow, compFn P pu ow f = some c
  lim : ∀ f, yb ≤ f → T f = none ∧ pu f = false
  loops : gate T = true → ∀ ps asg body params assign mbody n, LoopSpec.ok ps asg body params assign mbody n ↔
    ∃ ow nt, nt ≤ n ∧ ps = params.toList ∧ (∀ p ∈ ps, p < nt) ∧ asg = compCode P pu ow nt assign ∧ body = compCode P pu ow nt mbody
  prim : ∀ f p g, T f = some (.prim p g) → PrimOk P p f g ∧ (pu f = true → p = true) ∧ (pu (f + exb) = true → ∀ as h r h', (∀ i, h.nx ≤ i → h.blk i = none) → g as h = some (r, h') → h.le h')

omit [LoopSpec] in
theorem compFn_inv {ow : Nat → Nat → Nat} {f : Nat} {c : CFun} (e : compFn P pu ow f = some c) :
    ∃ fn code, P.funcs[rl f]? = some fn ∧ fn.body = some code ∧ (fn.name == "runtime.NumGoroutine") = false ∧ resTmps P fn.results.toList = some c.res ∧ c.body = compCode P pu (ow f) fn.ntmps code ∧ c.pure = pu f ∧ c.ext = pu (f + exb) := by
  unfold compFn at e
  split at e
  · rename_i fn hfn
    split at e
    · rename_i code r hb hr
      split at e
      · cases e
      · rename_i hn
        cases e
        exact ⟨fn, code, hfn, hb, by simpa using hn, hr, rfl, rfl, rfl⟩
    · cases e
  · cases e

/-- The frame is that of a round of a range whose record is there. -/
def RIn (r : Option Nat) (w : World) : Prop := ∀ l, r = some l → ∃ rec : Loop, w.heap[l]? = some (.loop rec)
omit [LoopSpec] in
theorem RIn.step {r : Option Nat} {w w' : World} (hr : RIn r w) (ho : ∀ b, Oth w w' b) : RIn r w' := fun l e => by
  obtain ⟨rec, q⟩ := hr l e
  obtain ⟨_, _, q'⟩ := (ho l).1 rec q
  exact ⟨_, q'⟩
omit [LoopSpec] in
theorem RIn.none {w : World} : RIn none w := fun _ e => by cases e

theorem rounds_seq {r : Option Nat} {c : Code} {cc : CCode} {Q : Exit → Act → World → Prop} {n : Nat} {e : EX}
    (hbody : ∀ m, m < n → ∀ s h e s' h', evC T m cc s h = some (e, s', h') → ∀ a w ρ I (Q : Exit → Act → World → Prop), RIn r w → FR Bo ρ I w nt a s → SR ρ I h w →
      (∀ a' w' ρ' I', St ρ I h w ρ' I' h' w' → SR ρ' I' h' w' → FR Bo ρ' I' w' nt a' s' → Q e.to a' w') → c.wpIn (FW r) 0 P Q a w) :
    ∀ m, m ≤ n → ∀ s h, evC T m (.loop cc) s h = some (e, s', h') → ∀ a w ρ I, RIn r w → FR Bo ρ I w nt a s → SR ρ I h w →
      (∀ a' w' ρ' I', St ρ I h w ρ' I' h' w' → SR ρ' I' h' w' → FR Bo ρ' I' w' nt a' s' → Q e.to a' w') → Code.roundsIn (FW r) 0 P c Q m a w := by
  intro m
  induction m with
  | zero => intro _ s h ev; cases ev
  | succ m ih =>
    intro hm s h ev a w ρ I hr hf hs hQ
    rw [roundsIn_succ]
    simp only [evC] at ev
    cases hb : evC T m cc s h with
    | none => simp [hb] at ev
    | some p =>
      obtain ⟨e1, s1, h1⟩ := p
      rw [hb] at ev
      refine hbody m (by omega) s h e1 s1 h1 hb a w ρ I _ hr hf hs fun a' w' ρ' I' st hs' hf' => ?_
      cases e1 with
      | nrm =>
        simp only at ev
        exact ih (by omega) s1 h1 ev a' w' ρ' I' (hr.step st.oth) hf' hs' fun a2 w2 ρ2 I2 st2 hs2 hf2 => hQ a2 w2 ρ2 I2 (st.trans st2) hs2 hf2
      | exit i => cases ev; exact hQ a' w' ρ' I' st hs' hf'
      | ret => cases ev; exact hQ a' w' ρ' I' st hs' hf'

section
variable {call : Nat → List PV → AH → Option (PV × AH)} {ρ : Nat → Option (Nat × Nat)} {I : Nat → Prop} {h h' : AH} {w : World} {nt : Nat} {Bo : Nat × List Deferred × Bool} {a : Act} {s s' : Fr} {u : Value} {v : PV}
/-- A real block that nothing stands for yet is given a number. -/
theorem SR.adopt (hs : SR ρ I h w) {b0 : Nat} {Z : Array Value} {T : TypeId} {zs : List PV} (hb : w.heap[b0]? = some (.cells Z T (0, 0))) (hl : zs.length ≤ Z.size) (hI : ¬ I b0)
    (hv : ∀ j (hj : j < zs.length), VR ρ I w (Z.getD j undef) zs[j]) (ho : ∀ x ∈ zs, x.one = true) (hρ : ∀ i o, h.blk i ≠ none → ρ i ≠ some (b0, o)) :
    SR (upd ρ h.nx (b0, 0)) I (h.push (.cells zs)) w := by
  have hlt : ∀ i, h.blk i ≠ none → i ≠ h.nx := fun i hl e => Nat.lt_irrefl _ (e ▸ hs.blkNx hl)
  have hext : ∀ i x, ρ i = some x → upd ρ h.nx (b0, 0) i = some x := fun i x e => by
    have : i ≠ h.nx := fun e' => by rw [e', hs.nxNone] at e; cases e
    simp [upd, this, e]
  have hmono : ∀ {u v}, VR ρ I w u v → VR (upd ρ h.nx (b0, 0)) I w u v := fun hv => hv.mono hext (fun _ e => e) (fun _ _ => rfl) (fun b C T f e => ⟨C, f, e, rfl⟩)
  refine ⟨fun i B e => ?_, fun i j b o o' hi hj e1 e2 => ?_, fun i b o hi e => ?_, fun i x e => ?_, hs.inI, hs.typ.mono (fun i x e => by
    have : i ≠ h.nx := fun q => by rw [q, hs.nxNone] at e; cases e
    simp [upd, this, e]) fun b C T f e => ⟨C, f, e, rfl⟩⟩
  · by_cases hi : i = h.nx
    · subst hi
      rw [AH.push_blk, if_pos rfl] at e
      cases e
      exact ⟨b0, 0, by simp [upd], Z, T, hb, by omega, fun j hj => by rw [Nat.zero_add]; exact hmono (hv j hj), ho⟩
    · rw [AH.push_blk, if_neg hi] at e
      obtain ⟨b, o, g1, g2⟩ := hs.live i B e
      refine ⟨b, o, hext _ _ g1, ?_⟩
      cases B with
      | cells cs =>
        obtain ⟨C, T, q1, q2, q3, q4⟩ := g2
        exact ⟨C, T, q1, q2, fun j hj => hmono (q3 j hj), q4⟩
      | map es =>
        obtain ⟨M, k, q1, q2, q3⟩ := g2
        exact ⟨M, k, q1, q2, fun j hj hj' => ⟨hmono (q3 j hj hj').1, hmono (q3 j hj hj').2⟩⟩
      | loop s L =>
        obtain ⟨r, x, q1, q2, q3, q4, q5⟩ := g2
        exact ⟨r, x, q1, q2, q3, q4, fun t => hmono (q5 t)⟩
  · rw [AH.push_blk] at hi hj
    by_cases h1 : i = h.nx <;> by_cases h2 : j = h.nx
    · omega
    · rw [if_neg h2] at hj
      simp [upd, h1] at e1
      simp [upd, h2] at e2
      exact absurd (e1.1 ▸ e2) (hρ j o' hj)
    · rw [if_neg h1] at hi
      simp [upd, h1] at e1
      simp [upd, h2] at e2
      exact absurd (e2.1 ▸ e1) (hρ i o hi)
    · rw [if_neg h1] at hi
      rw [if_neg h2] at hj
      simp [upd, h1] at e1
      simp [upd, h2] at e2
      exact hs.inj i j b o o' hi hj e1 e2
  · rw [AH.push_blk] at hi
    by_cases h1 : i = h.nx
    · simp [upd, h1] at e
      exact e.1 ▸ hI
    · rw [if_neg h1] at hi
      simp [upd, h1] at e
      exact hs.apart i b o hi e
  · rw [AH.push_nx]
    by_cases h1 : i = h.nx
    · omega
    · simp [upd, h1] at e
      have := hs.nx i x e
      omega

omit [LoopSpec] in
theorem execOp_act {o : Oper} {a a' : Act} (hs : ∀ cs b, o.op ≠ .select cs b) (h : ∀ x ∈ o.op.operands, a.eval x = a'.eval x) : execOp a.eval o = execOp a'.eval o := execOp_congr o hs h

omit [LoopSpec] in
/-- A slot's value put back. -/
theorem wpOp_back {r : Option Nat} {all : Array Oper} {i : Nat} {o : Oper} {t : Nat} {p : Value} {K : Act → World → Prop} {Q : Exit → Act → World → Prop} (hi : all[i]? = some o) (hg : o.guard = none) (hd : o.dst ≠ some t) (hs : ∀ cs b, o.op ≠ .select cs b) (hop : ∀ y ∈ o.op.operands, y ≠ .tmp t)
    (hp : a.tmps[t]? = some p) (h : wpOpIn (FW r) 0 P all (fun e a' w' => Q e (a'.put (some t) p) w') i (fun a' w' => K (a'.put (some t) p) w') (a.put (some t) undef) w) : wpOpIn (FW r) 0 P all Q i K a w := by
  have hlt : t < a.tmps.size := by
    rcases Nat.lt_or_ge t a.tmps.size with q | q
    · exact q
    · rw [Array.getElem?_eq_none q] at hp; cases hp
  have hp' : a.tmps[t] = p := by rw [Array.getElem?_eq_getElem hlt] at hp; exact Option.some.inj hp
  have hbackG : ∀ (a : Act), t < a.tmps.size → a.tmps[t]? = some p → ∀ (d : Option Nat) (x : Value), d ≠ some t → ((a.put (some t) undef).put d x).put (some t) p = a.put d x := by
    intro a hlt hp d x hd
    have hp' : a.tmps[t] = p := by rw [Array.getElem?_eq_getElem hlt] at hp; exact Option.some.inj hp
    cases d with
    | none =>
      simp only [Act.put]
      congr 1
      apply Array.ext_getElem?
      intro j
      simp only [Array.getElem?_setIfInBounds, Array.size_setIfInBounds]
      by_cases q : t = j
      · subst q; simp [hlt, hp']
      · simp [q]
    | some d =>
      have hne : d ≠ t := fun q => hd (by rw [q])
      simp only [Act.put]
      congr 1
      apply Array.ext_getElem?
      intro j
      simp only [Array.getElem?_setIfInBounds, Array.size_setIfInBounds]
      by_cases q : t = j
      · subst q; simp [hlt, hp', hne]
      · simp [q]
  have hback := hbackG a hlt hp
  have hev : ∀ y ∈ o.op.operands, (a.put (some t) undef).eval y = a.eval y := fun y hy => Act.eval_put fun d hd' hx => hop y hy (by cases hd'; exact hx)
  have hex : execOp (a.put (some t) undef).eval o = execOp a.eval o := execOp_congr o hs hev
  unfold wpOpIn at h ⊢
  simp only [hi] at h ⊢
  have hw : ∀ l, Region.wanted o l = true := fun l => by simp [Region.wanted, hg]
  rw [hw, if_pos rfl] at h ⊢
  · unfold Oper.wpIn at h ⊢
    refine ⟨fun _ _ => trivial, ?_⟩
    replace h := h.2
    have hex' : o.semAt (FW r).round (a.put (some t) undef).eval = o.semAt (FW r).round a.eval := by
      unfold Oper.semAt
      cases (FW r).round with
      | none => exact hex
      | some l =>
        cases ho : o.op <;> first
          | exact hex
          | (simp only; rw [resolve_congr (ρ := (a.put (some t) undef).eval) (ρ' := a.eval) _ o.type (fun x hx => hev x (by rw [ho]; simpa [Op.operands] using hx))])
    rw [hex'] at h
    have ha : (a.put (some t) undef).put (some t) p = a := hback none p (by simp)
    generalize (o.semAt (FW r).round a.eval).run P w = rr at h ⊢
    cases rr with
    | ok n w' =>
      cases n with
      | value v => simp only [Oper.uponIn, hback _ _ hd] at h ⊢; exact h
      | skip => simp only [Oper.uponIn, hback _ _ hd] at h ⊢; exact h
      | defer d =>
        have := hbackG { a with defers := d :: a.defers } hlt hp o.dst undef hd
        simp only [Oper.uponIn] at h ⊢
        rw [← this]
        exact h
      | enter f args =>
        simp only [Oper.uponIn] at h ⊢
        refine ⟨h.1, h.2.mono fun e w'' he => ?_⟩
        cases e with
        | returned v => simp only [hback _ _ hd] at he; exact he
        | panicked ch => simp only [ha] at he; exact he
        | outgrown => obtain ⟨a1, w1, h2⟩ := he; exact ⟨_, _, h2⟩
      | row rw as =>
        simp only [Oper.uponIn] at h ⊢
        refine ⟨h.1, h.2.mono fun v w'' he => ?_⟩
        simp only [hback _ _ hd] at he; exact he
      | round l f tmps assign body =>
        simp only [Oper.uponIn] at h ⊢
        refine ⟨h.1, h.2.mono fun e w'' he => ?_⟩
        cases e with
        | returned v => simp only [hback _ _ hd] at he; exact he
        | panicked ch => simp only [ha] at he; exact he
        | outgrown => obtain ⟨a1, w1, h2⟩ := he; exact ⟨_, _, h2⟩
      | _ => exact h.elim
    | halt st w' =>
      cases st with
      | panic v => simp only [Oper.uponIn, ha] at h ⊢; exact h
      | _ => exact h.elim

omit [LoopSpec] in
theorem compOp_al {op : Op} {ow : Nat} {zs : List PV} (hc : compOp P ow op = some (.alloc zs)) : ∃ T, op = .alloc T := by
  cases op <;> first
    | exact ⟨_, rfl⟩
    | (exfalso; simp only [compOp, compCall, reduceCtorEq] at hc; done)
    | (exfalso; simp only [compOp, compCall, Option.map_eq_some_iff, reduceCtorEq, and_false, exists_false] at hc; done)
    | (exfalso
       simp only [compOp, compCall] at hc
       (repeat' split at hc) <;> first
         | (cases hc; done)
         | (simp [Option.map_eq_some_iff] at hc; done)
         | (simp only [Option.map_eq_some_iff, Option.bind_eq_some_iff, Function.comp_def, reduceCtorEq, and_false, exists_false] at hc; done)
         | contradiction
         | (simp [Option.bind_eq_some_iff] at hc; done)
         | (simp only [compBin] at hc
            (repeat' split at hc) <;> first
              | (cases hc; done)
              | (simp [Option.map_eq_some_iff] at hc; done)
              | (simp [Option.bind_eq_some_iff] at hc; done)
              | contradiction))

omit [LoopSpec] in
theorem compOp_st {op : Op} {ow n : Nat} {a x : Opd} (hc : compOp P ow op = some (.store n a x)) : ∃ T a0 x0, op = .store T a0 x0 := by
  cases op <;> first
    | exact ⟨_, _, _, rfl⟩
    | (exfalso; simp only [compOp, compCall, reduceCtorEq] at hc; done)
    | (exfalso; simp only [compOp, compCall, Option.map_eq_some_iff, reduceCtorEq, and_false, exists_false] at hc; done)
    | (exfalso
       simp only [compOp, compCall] at hc
       (repeat' split at hc) <;> first
         | (cases hc; done)
         | (simp [Option.map_eq_some_iff] at hc; done)
         | (simp only [Option.map_eq_some_iff, Option.bind_eq_some_iff, Function.comp_def, reduceCtorEq, and_false, exists_false] at hc; done)
         | contradiction
         | (simp [Option.bind_eq_some_iff] at hc; done)
         | (simp only [compBin] at hc
            (repeat' split at hc) <;> first
              | (cases hc; done)
              | (simp [Option.map_eq_some_iff] at hc; done)
              | (simp [Option.bind_eq_some_iff] at hc; done)
              | contradiction))

omit [LoopSpec] in
theorem cv_alloc {c0 : COp} {zs : List PV} (h : cv c0 (.alloc zs)) : c0 = .alloc zs := by
  rcases h with rfl | ⟨_, _, _, _, _, q⟩ | ⟨_, _, _, _, _, _, q⟩ | ⟨_, _, _, _, q⟩ | ⟨_, _, _, _, q⟩
  · rfl
  all_goals cases q
omit [LoopSpec] in
theorem cv_store {c0 : COp} {n : Nat} {a x : Opd} (h : cv c0 (.store n a x)) : c0 = .store n a x := by
  rcases h with rfl | ⟨_, _, _, _, _, q⟩ | ⟨_, _, _, _, _, _, q⟩ | ⟨_, _, _, _, q⟩ | ⟨_, _, _, _, q⟩
  · rfl
  all_goals cases q

omit [LoopSpec] in
theorem put_put (a : Act) (t : Nat) (x y : Value) : (a.put (some t) x).put (some t) y = a.put (some t) y := by
  simp only [Act.put]
  congr 1
  apply Array.ext_getElem?
  intro j
  simp only [Array.getElem?_setIfInBounds, Array.size_setIfInBounds]
  by_cases q : t = j
  · simp [q]
  · simp [q]
omit [LoopSpec] in
theorem Fr.put_self (s : Fr) (t : Nat) : Fr.put s (some t) (s t) = s := by
  funext j
  by_cases q : j = t
  · subst q; simp [Fr.put]
  · simp [Fr.put, q]
omit [LoopSpec] in
theorem VR.undef_at {t : Nat} (hf : FR Bo ρ I w nt (a.put (some t) Go.undef) s) (ht : t < nt) : VR ρ I w Go.undef (s t) := by
  have := hf.slot t
  have hlt : t < (a.put (some t) Go.undef).tmps.size := Nat.lt_of_lt_of_le ht hf.size
  have e : (a.put (some t) Go.undef).tmps.getD t Go.undef = Go.undef := by
    simp only [Act.put, Array.size_setIfInBounds] at hlt
    simp [Act.put, Array.getD, hlt]
  rw [e] at this
  exact this
omit [LoopSpec] in
theorem put_back {t : Nat} {p : Value} (hp : a.tmps[t]? = some p) : (a.put (some t) Go.undef).put (some t) p = a := by
  rw [put_put]
  cases a with
  | mk tmps defers =>
    simp only [Act.put] at hp ⊢
    congr 1
    apply Array.ext_getElem?
    intro j
    simp only [Array.getElem?_setIfInBounds]
    by_cases q : t = j
    · subst q
      have hlt : t < tmps.size := by
        rcases Nat.lt_or_ge t tmps.size with q | q
        · exact q
        · rw [Array.getElem?_eq_none q] at hp; cases hp
      simp [hlt]
      rw [Array.getElem?_eq_getElem hlt] at hp
      exact (Option.some.inj hp).symm
    · simp [q]
omit [LoopSpec] in
theorem push_set (h : AH) (B B' : Blk) : (h.push B).set h.nx B' = h.push B' := by
  simp only [AH.push, AH.set]
  congr 1
  funext i
  by_cases q : i = h.nx <;> simp [q]
omit [LoopSpec] in
/-- A store of all of a block that has just been made. -/
theorem wr_all {h : AH} {zs : List PV} {Y : PV} {n : Nat} (hz : zs.length = n) (ho : Y.okc = true) (hn : Y.cells.length = n) : wr (h.push (.cells zs)) (.pt h.nx 0) Y n = some (h.push (.cells Y.cells)) := by
  have hr : (h.push (.cells zs)).row h.nx = some zs := by simp [AH.row, AH.push]
  have hspl : ∀ ys : List PV, ys.length = n → splice zs 0 ys = ys := fun ys hy => by
    apply List.ext_getElem?
    intro j
    rw [splice_get _ _ _ _ (by omega)]
    by_cases q : j < ys.length
    · simp [q]
    · have : zs.length ≤ j := by omega
      simp [q, this]
  cases Y with
  | agg ys =>
    simp only [PV.cells] at hn
    simp only [wr, hr]
    rw [if_pos ⟨hn, by omega⟩, hspl ys hn, push_set]; rfl
  | tup ys => cases ho
  | dfr ys => cases ho
  | _ =>
    simp only [PV.cells, List.length_singleton] at hn
    simp only [wr, hr]
    rw [if_pos ⟨hn.symm, by omega⟩, set_splice (by omega), hspl _ (by simpa using hn), push_set]; rfl
omit [LoopSpec] in
/-- What is kept by a region in which a block is made, and stood for later. -/
theorem St.late {ρ1 : Nat → Option (Nat × Nat)} {I1 : Nat → Prop} {h0 h1 : AH} {w0 w1 w2 : World} {b0 : Nat} {zs : List PV} {B : Blk} (st : St ρ I h0 w0 ρ1 I1 h1 w1) (hn : ρ1 h1.nx = none) (hb : w0.heap.size ≤ b0)
    (st2 : St (upd ρ1 h1.nx (b0, 0)) I1 (h1.push (.cells zs)) w1 (upd ρ1 h1.nx (b0, 0)) I1 (h1.push B) w2) (hlt : ∀ i, h1.blk i ≠ none → i ≠ h1.nx) : St ρ I h0 w0 (upd ρ1 h1.nx (b0, 0)) I1 (h1.push B) w2 := by
  have hext : ∀ i x, ρ1 i = some x → upd ρ1 h1.nx (b0, 0) i = some x := fun i x e => by
    have : i ≠ h1.nx := fun e' => by rw [e', hn] at e; cases e
    simp [upd, this, e]
  refine ⟨fun i x e => hext i x (st.ext i x e), st.imm, st.immNew, st2.os.trans st.os, st2.tape.trans st.tape, st2.output.trans st.output, Nat.le_trans st.size st2.size, fun b hb' hl => ?_, fun b C T f e => ?_, fun b => (st.oth b).trans (st2.oth b), fun i b o hl e => ?_, ?_, fun i x e => ?_⟩
  · rw [st2.keep b (by have := st.size; omega) fun i o hl' e => ?_, st.keep b hb' hl]
    rw [AH.push_blk] at hl'
    by_cases q : i = h1.nx
    · simp [upd, q] at e
      omega
    · rw [if_neg q] at hl'
      simp [upd, q] at e
      rcases st.own i b o hl' e with q2 | ⟨j, o', q2, q3⟩
      · omega
      · exact hl j o' q2 q3
  · obtain ⟨C1, f1, e1, n1⟩ := st.row b C T f e
    obtain ⟨C2, f2, e2, n2⟩ := st2.row b C1 T f1 e1
    exact ⟨C2, f2, e2, n2.trans n1⟩
  · rw [AH.push_blk] at hl
    by_cases q : i = h1.nx
    · simp [upd, q] at e
      left; omega
    · rw [if_neg q] at hl
      simp [upd, q] at e
      exact st.own i b o hl e
  · have := st.nxle
    rw [AH.push_nx]; omega
  · by_cases q : i = h1.nx
    · right; have := st.nxle; omega
    · simp [upd, q] at e
      exact st.low i x e
/-- What holds while a region with a late alloc runs. -/
def LateIv (ia is t n : Nat) (zs : List PV) (ρ : Nat → Option (Nat × Nat)) (I : Nat → Prop) (h : AH) (w : World) (nt : Nat) (listed : Array Bool) (a' : Act) (w' : World) (s1 : Fr) (h1 : AH) : Prop :=
  ∃ ρ' I', St ρ I h w ρ' I' h1 w' ∧ SR ρ' I' h1 w' ∧
    ((isL listed ia = isL listed is ∧ FR Bo ρ' I' w' nt a' s1) ∨
     (isL listed ia = true ∧ isL listed is = false ∧ ∃ b0 Z T, FR Bo ρ' I' w' nt (a'.put (some t) undef) s1 ∧ a'.tmps[t]? = some (.pointer (some ⟨b0, 0, none⟩)) ∧ w'.heap[b0]? = some (.cells Z T (0, 0)) ∧ Z.size = n ∧
       cstCells Z.toList = some zs ∧ w.heap.size ≤ b0 ∧ ¬ I' b0 ∧ ∀ i o, h1.blk i ≠ none → ρ' i ≠ some (b0, o)))

theorem wpAny_late {r : Option Nat} {ow : Nat → Nat} {all : Array Oper} {cops : List COper} {Q : Exit → Act → World → Prop} {ia is t n : Nat} {x : Opd} {zs : List PV} (hcl : cops.length = all.size) (hpair : ∀ (i : Nat) o c, all[i]? = some o → cops[i]? = some c → Pair P ow nt all o c)
    (hia : cops[ia]? = some ⟨some t, .alloc zs, none⟩) (his : cops[is]? = some ⟨none, .store n (.t t) x, none⟩) (hne : ia ≠ is) (hzs : zs.length = n) (hx : t ∉ x.slots)
    (hedge : ∀ o, all[is]? = some o → ia ∈ edges o)
    (hoth : ∀ j o, all[j]? = some o → j ≠ is → j ≠ ia → o.guard = none ∧ o.dst ≠ some t ∧ (∀ y ∈ o.op.operands, y ≠ .tmp t) ∧ ∀ cs b, o.op ≠ .select cs b)
    (hco : CallOk P call) (hp : PureOk pu call) (hwf : WfOk call) (hd : drawOk pu all.toList ((cops.set ia ⟨some t, .mov (.c .undef), none⟩).set is ⟨some t, .boxN n x, none⟩) = true)
    (fuel : Nat) (listed : Array Bool) (a : Act) (w : World) (ρ : Nat → Option (Nat × Nat)) (I : Nat → Prop) (s : Fr) (h : AH) (hsz : listed.size = all.size) (hlen : (remOf all.size listed).length ≤ fuel)
    (hl0 : ∀ i, isL listed i = false) (hf : FR Bo ρ I w nt a s) (hs : SR ρ I h w)
    (e : evSeq call ((cops.set ia ⟨some t, .mov (.c .undef), none⟩).set is ⟨some t, .boxN n x, none⟩) (remOf all.size listed) s h = some (s', h'))
    (hQ : ∀ a' w' ρ' I', St ρ I h w ρ' I' h' w' → SR ρ' I' h' w' → FR Bo ρ' I' w' nt a' s' → Q .normal a' w') : wpAnyIn (FW r) 0 P .any all Q fuel listed a w := by
  have ial : ia < cops.length := by
    rcases Nat.lt_or_ge ia cops.length with q | q
    · exact q
    · rw [List.getElem?_eq_none q] at hia; cases hia
  have isl : is < cops.length := by
    rcases Nat.lt_or_ge is cops.length with q | q
    · exact q
    · rw [List.getElem?_eq_none q] at his; cases his
  have hget : ∀ (i : Nat) (c : COper), ((cops.set ia ⟨some t, .mov (.c .undef), none⟩).set is ⟨some t, .boxN n x, none⟩)[i]? = some c → (i = is ∧ c = ⟨some t, .boxN n x, none⟩) ∨ (i ≠ is ∧ i = ia ∧ c = ⟨some t, .mov (.c .undef), none⟩) ∨ (i ≠ is ∧ i ≠ ia ∧ cops[i]? = some c) := by
    intro i c hc
    rw [List.getElem?_set] at hc
    by_cases h1 : is = i
    · rw [if_pos h1] at hc
      left
      split at hc
      · cases hc; exact ⟨h1.symm, rfl⟩
      · cases hc
    · rw [if_neg h1, List.getElem?_set] at hc
      by_cases h2 : ia = i
      · rw [if_pos h2] at hc
        right; left
        split at hc
        · cases hc; exact ⟨fun q => h1 q.symm, h2.symm, rfl⟩
        · exact absurd ial ‹_›
      · rw [if_neg h2] at hc
        right; right
        exact ⟨fun q => h1 q.symm, fun q => h2 q.symm, hc⟩
  have htn : t < nt := by
    have hio : all[ia]? = some all[ia] := Array.getElem?_eq_getElem (by omega)
    have hpi := hpair ia _ _ hio hia
    exact hpi.dlt t (by rw [← hpi.dst])
  refine wpAny_gen (LateIv ia is t n zs ρ I h w nt) (by simpa using hcl) hp hwf (fun _ _ _ _ _ ⟨_, _, _, hs, _⟩ => hs.wfh) ?_ hd fuel listed a w s h hsz hlen (fun i o hi => by rw [hl0] at hi; cases hi) ⟨ρ, I, .refl, hs, .inl ⟨by rw [hl0, hl0], hf⟩⟩ e ?_
  · rintro listed i o c a w1 s h1 s2 h2 K hsz' hia' hil hi hic ⟨ρ1, I1, st, hs1, hiv⟩ c' hwk hst hrd hK
    have hiL : i < listed.size := by omega
    rcases hget i c hic with ⟨rfl, rfl⟩ | ⟨n1, rfl, rfl⟩ | ⟨n1, n2, hc⟩
    · obtain rfl := hwk.eq_of rfl
      -- the store
      have hLa : isL listed ia = true := hrd ia (hedge o hi)
      rcases hiv with ⟨q, _⟩ | ⟨q1, q2, b0, Z, T, hf1, hpt, hb, hZ, hzc, hb0, hI, hρ⟩
      · rw [hLa, hil] at q; cases q
      have hpi := hpair i o _ hi his
      have ho : ∃ T' a0 x0, o.op = .store T' a0 x0 ∧ szT P T' = some n ∧ opd a0 = some (.t t) ∧ opd x0 = some x := by
        rcases hpi.op with ⟨b, c0, hc0, hcv⟩ | hb'
        · rw [cv_store hcv] at hc0
          obtain ⟨T', a0, x0, hT⟩ := compOp_st hc0
          rw [hT] at hc0
          simp only [compOp] at hc0
          split at hc0
          · rename_i n' X Y h1 h2 h3
            cases hc0
            exact ⟨T', a0, x0, hT, h1, h2, h3⟩
          · cases hc0
        · cases hb'
      obtain ⟨T', a0, x0, hT, hn, ha0, hx0⟩ := ho
      have ha0' : a0 = .tmp t := by
        cases a0 with
        | tmp u => simp only [opd, Option.some.injEq, Opd.t.injEq] at ha0; rw [ha0]
        | const c => simp only [opd, Option.map_eq_some_iff] at ha0; obtain ⟨_, _, q⟩ := ha0; cases q
        | global g => simp [opd] at ha0
        | func f => simp [opd] at ha0
      have hxt : x0 ≠ .tmp t := fun q => by
        rw [q] at hx0
        simp only [opd, Option.some.injEq] at hx0
        exact hx (by rw [← hx0]; simp [Opd.slots])
      have hg : o.guard = none := by
        rcases hpi.guard with ⟨q, _⟩ | ⟨_, _, _, _, _, q, _⟩
        · exact q
        · cases q
      have hdst : o.dst = none := by rw [← hpi.dst]
      obtain ⟨v, rfl, hev⟩ := evStep_inv hst
      have hev2 : (x.val s).okc = true ∧ (x.val s).cells.length = n ∧ v = .pt h1.nx 0 ∧ h2 = h1.push (.cells (x.val s).cells) := by
        rcases hev with ⟨_, hev⟩ | ⟨q, _⟩
        · have := (evOpB_inv hev).2
          simp only [evOp] at this
          split at this
          · rename_i hc; cases this; exact ⟨hc.1, hc.2, rfl, rfl⟩
          · cases this
        · cases q
      obtain ⟨hok, hcl', rfl, rfl⟩ := hev2
      obtain ⟨z1, z2⟩ := cstCells_vr (ρ := ρ1) (I := I1) (w := w1) _ _ hzc
      have hs2 := hs1.adopt (zs := zs) hb (by rw [hZ, hzs]; exact Nat.le_refl _) hI (fun j hj => by have := z2 j hj; simpa [Array.getD_eq_getD_getElem?] using this) (cstCells_one _ _ hzc) hρ
      have hext : ∀ i x, ρ1 i = some x → upd ρ1 h1.nx (b0, 0) i = some x := fun i x e => by
        have : i ≠ h1.nx := fun e' => by rw [e', hs1.nxNone] at e; cases e
        simp [upd, this, e]
      have hxv : VR (upd ρ1 h1.nx (b0, 0)) I1 w1 (a.eval x0) (x.val s) := by
        have h1 := opd_vr hx0 hf1
        have h2 : (a.put (some t) Go.undef).eval x0 = a.eval x0 := Act.eval_put fun d hd' hx' => hxt (by cases hd'; exact hx')
        rw [h2] at h1
        exact h1.mono hext (fun _ e => e) (fun _ _ => rfl) (fun b C T f e => ⟨C, f, e, rfl⟩)
      have hpv : VR (upd ρ1 h1.nx (b0, 0)) I1 w1 (.pointer (some ⟨b0, 0, none⟩)) (.pt h1.nx 0) := by
        have : VR (upd ρ1 h1.nx (b0, 0)) I1 w1 (.pointer (some ⟨b0, 0 + 0, none⟩)) (.pt h1.nx 0) := .pt (by simp [upd])
        simpa using this
      obtain ⟨w2, hrun, hs3, st2⟩ := store_ok (P := P) hs2 hn hpv hxv (wr_all hzs hok hcl')
      have hav : a.eval a0 = .pointer (some ⟨b0, 0, none⟩) := by
        rw [ha0']
        show a.tmps.getD t Go.undef = _
        simp [Array.getD_eq_getD_getElem?, hpt]
      unfold wpOpIn
      simp only [hi]
      have hw : ∀ l, Region.wanted o l = true := fun l => by simp [Region.wanted, hg]
      rw [hw, if_pos rfl]
      refine oper_in (fun d hd => by rw [hT] at hd; cases hd) ?_
      have hrun2 : (execOp a.eval o).run P w1 = .ok .skip w2 := by
        simp only [execOp, hT]
        rw [hav]
        simp [hrun]
      rw [hrun2, Oper.uponIn_skip, hdst]
      have hLs : isL (listed.setIfInBounds i true) ia = isL (listed.setIfInBounds i true) i := by
        rw [isL_set hiL, isL_set hiL, hLa]; simp
      refine hK a w2 ⟨upd ρ1 h1.nx (b0, 0), I1, st.late hs1.nxNone hb0 st2 (fun i hl e => Nat.lt_irrefl _ (e ▸ hs1.blkNx hl)), hs3, .inl ⟨hLs, ?_⟩⟩
      have hf2 : FR Bo (upd ρ1 h1.nx (b0, 0)) I1 w2 nt (a.put (some t) Go.undef) s := ⟨hf1.size, hf1.defers.step st2.size st2.immNew st2.oth, fun j => (hf1.slot j).mono hext (fun _ e => e) (fun b hb' => st2.keep b (hs1.inI b hb') fun i o hl e => hs2.apart i b o hl e hb') st2.row⟩
      have hpv2 : VR (upd ρ1 h1.nx (b0, 0)) I1 w2 (.pointer (some ⟨b0, 0, none⟩)) (.pt h1.nx 0) := hpv.step hs2 st2
      have := hf2.put (d := some t) (fun _ q => by cases q; exact htn) hpv2
      rw [put_back hpt] at this
      exact this
    · -- the alloc
      obtain rfl := hwk.eq_of rfl
      have hiv' : isL listed i = isL listed is ∧ FR Bo ρ1 I1 w1 nt a s := by
        rcases hiv with q | ⟨q, _⟩
        · exact q
        · rw [hil] at q; cases q
      obtain ⟨hLs, hf1⟩ := hiv'
      rw [hil] at hLs
      have hpi := hpair i o _ hi hia
      have ho : ∃ T, o.op = .alloc T ∧ zeroCells P T = some zs := by
        rcases hpi.op with ⟨b, c0, hc0, hcv⟩ | hb
        · rw [cv_alloc hcv] at hc0
          obtain ⟨T, hT⟩ := compOp_al hc0
          rw [hT] at hc0
          simp only [compOp, Option.map_eq_some_iff] at hc0
          obtain ⟨zs', h1, h2⟩ := hc0
          cases h2
          exact ⟨T, hT, h1⟩
        · cases hb
      obtain ⟨T, hT, hz⟩ := ho
      obtain ⟨z, z1, z2⟩ := zeroCells_inv hz
      have hg : o.guard = none := by
        rcases hpi.guard with ⟨q, _⟩ | ⟨_, _, _, _, _, q, _⟩
        · exact q
        · cases q
      have hdst : o.dst = some t := by rw [← hpi.dst]
      obtain ⟨v, rfl, hev⟩ := evStep_inv hst
      have hev2 : v = .undef ∧ h2 = h1 := by
        rcases hev with ⟨_, hev⟩ | ⟨q, _⟩
        · have := (evOpB_inv hev).2
          simp only [evOp] at this
          cases this
          exact ⟨rfl, rfl⟩
        · cases q
      obtain ⟨rfl, rfl⟩ := hev2
      obtain ⟨hs', st'⟩ := hs1.grow (I' := I1) (w' := w1.alloc (.cells z.cells T)) rfl rfl rfl (by simp) (fun b hb => RowKit.Below.heap_alloc _ _ _ hb) (fun _ e => e) (fun _ e => .inl e) (fun b e => by have := hs1.inI b e; simp; omega)
      unfold wpOpIn
      simp only [hi]
      have hw : ∀ l, Region.wanted o l = true := fun l => by simp [Region.wanted, hg]
      rw [hw, if_pos rfl]
      refine oper_in (fun d hd => by rw [hT] at hd; cases hd) ?_
      have hrun : (execOp a.eval o).run P w1 = .ok (.value (.pointer (some ⟨w1.heap.size, 0, none⟩))) (w1.alloc (.cells z.cells T)) := by
        simp only [execOp, hT]
        simp [Instr.alloc, run_zeroValue z1, newVar, newRow]
      rw [hrun, Oper.uponIn_value, hdst]
      have hzc := cstCells_vr (ρ := ρ1) (I := I1) (w := w1) _ _ z2
      refine hK _ _ ⟨ρ1, I1, st.trans st', hs', .inr ⟨by rw [isL_set hiL]; simp, by rw [isL_set hiL, ← hLs]; simp; exact fun q => hne q.symm, w1.heap.size, z.cells, T, ?_, ?_, heap_alloc_new _ _, ?_, z2, st.size, ?_, ?_⟩⟩
      · rw [put_put]
        exact (hf1.step hs1 st').put (d := some t) (fun _ q => by cases q; exact htn) VR.undef
      · have := Nat.lt_of_lt_of_le htn hf1.size
        simp [Act.put, this]
      · have := hzc.1
        simp at this
        omega
      · intro q
        have := hs1.inI _ q; omega
      · intro j o' hl e
        obtain ⟨B, hB⟩ := Option.ne_none_iff_exists'.1 hl
        obtain ⟨b, o2, g1, g2⟩ := hs1.live j B hB
        rw [e] at g1
        cases g1
        have : w1.heap[w1.heap.size]? ≠ none := by
          cases B <;> (obtain ⟨_, _, g, _⟩ := g2; rw [g]; simp)
        simp at this
    · have hp1 := (hpair i o c hi hc).weak hwk
      obtain ⟨o1, o2, o3, o4⟩ := hoth i o hi n1 n2
      have hLa : isL (listed.setIfInBounds i true) ia = isL listed ia := by rw [isL_set hiL]; simp [n2.symm]
      have hLs : isL (listed.setIfInBounds i true) is = isL listed is := by rw [isL_set hiL]; simp [n1.symm]
      rcases hiv with ⟨q, hf1⟩ | ⟨q1, q2, b0, Z, T, hf1, hpt, hb, hZ, hzc, hb0, hI, hρ⟩
      · refine wp_step hp1 hi hf1 hs1 hst hco fun a' w' ρ' I' st' hs' hf' => hK a' w' ⟨ρ', I', st.trans st', hs', .inl ⟨by rw [hLa, hLs]; exact q, hf'⟩⟩
      · refine wpOp_back hi o1 o2 o4 o3 hpt (wp_step hp1 hi hf1 hs1 hst hco fun a' w' ρ' I' st' hs' hf' => hK _ w' ⟨ρ', I', st.trans st', hs', .inr ⟨by rw [hLa]; exact q1, by rw [hLs]; exact q2, b0, Z, T, ?_, ?_, ?_, hZ, hzc, hb0, ?_, ?_⟩⟩)
        · rw [put_put]
          have hv : VR ρ' I' w' Go.undef (s2 t) := by
            obtain ⟨v, rfl, _⟩ := evStep_inv hst
            rw [put_get (d := c'.dst) fun y hy q => o2 (by rw [← hp1.dst, hy, q])]
            exact (VR.undef_at hf1 htn).step hs1 st'
          have := hf'.put (d := some t) (fun _ q => by cases q; exact htn) hv
          rw [Fr.put_self] at this
          exact this
        · have := Nat.lt_of_lt_of_le htn hf'.size
          simp [Act.put, this]
        · rw [st'.keep b0 _ fun i o hl e => hρ i o hl e]
          · exact hb
          · rcases Nat.lt_or_ge b0 w1.heap.size with q | q
            · exact q
            · rw [Array.getElem?_eq_none q] at hb; cases hb
        · intro q
          rcases st'.immNew b0 q with q | q
          · exact hI q
          · rw [Array.getElem?_eq_none q] at hb; cases hb
        · intro i o hl e
          rcases st'.own i b0 o hl e with q | ⟨j, o', q, e'⟩
          · rw [Array.getElem?_eq_none q] at hb; cases hb
          · exact hρ j o' q e'
  · rintro listed' a' w' hsz2 hrem ⟨ρ', I', st, hs', hiv⟩
    have hL : ∀ i, i < all.size → isL listed' i = true := fun i hi => by
      cases q : isL listed' i with
      | true => rfl
      | false =>
        have : i ∈ remOf all.size listed' := by simp [remOf, q, hi]
        rw [hrem] at this; cases this
    rcases hiv with ⟨_, hf'⟩ | ⟨_, q, _⟩
    · exact hQ a' w' ρ' I' st hs' hf'
    · rw [hL is (by omega)] at q; cases q

omit [LoopSpec] in
theorem lateCops_inv {all : Array Oper} {cops : List COper} (hl : (lateCops all.toList cops).length = cops.length) : lateCops all.toList cops = cops ∨ ∃ ia is t n x zs, cops[ia]? = some ⟨some t, .alloc zs, none⟩ ∧ cops[is]? = some ⟨none, .store n (.t t) x, none⟩ ∧ ia ≠ is ∧ zs.length = n ∧ t ∉ x.slots ∧
    (∀ o, all[is]? = some o → ia ∈ edges o) ∧ (∀ j o, all[j]? = some o → j ≠ is → j ≠ ia → o.guard = none ∧ o.dst ≠ some t ∧ (∀ y ∈ o.op.operands, y ≠ .tmp t) ∧ ∀ cs b, o.op ≠ .select cs b) ∧
    lateCops all.toList cops = (cops.set ia ⟨some t, .mov (.c .undef), none⟩).set is ⟨some t, .boxN n x, none⟩ := by
  unfold lateCops at hl ⊢
  split at hl
  · rename_i ia n t x h1 h2
    split at hl
    · rename_i hc
      right
      simp only [Bool.and_eq_true, bne_iff_ne, ne_eq, Bool.not_eq_true'] at hc
      obtain ⟨hne, hfit, hx⟩ := hc
      simp only [lateFit, Bool.and_eq_true] at hfit
      obtain ⟨f1, f2, f3⟩ := hfit
      have his : cops[cops.length - 1]? = some ⟨none, .store n (.t t) x, none⟩ := by rw [← List.getLast?_eq_getElem?]; exact h2
      have hia : ∃ zs, cops[ia]? = some ⟨some t, .alloc zs, none⟩ ∧ zs.length = n := by
        split at f1
        · rename_i d zs g hget
          simp only [Bool.and_eq_true, beq_iff_eq, Option.isNone_iff_eq_none] at f1
          obtain ⟨⟨rfl, rfl⟩, hz⟩ := f1
          exact ⟨zs, hget, hz⟩
        · cases f1
      obtain ⟨zs, hia, hz⟩ := hia
      refine ⟨ia, cops.length - 1, t, n, x, zs, hia, his, hne, hz, ?_, ?_, ?_, ?_⟩
      · intro q
        have : x.slots.contains t = true := by simpa using q
        rw [this] at hx; cases hx
      · intro o ho
        have ho' : all.toList[cops.length - 1]? = some o := by simpa using ho
        rw [ho'] at f2
        simp only [Bool.and_eq_true] at f2
        simpa using f2.1.1
      · intro j o ho j1 j2
        have hj : j < all.toList.length := by
          rcases Nat.lt_or_ge j all.size with q | q
          · simpa using q
          · rw [Array.getElem?_eq_none q] at ho; cases ho
        have ho' : all.toList[j]? = some o := by simpa using ho
        have := List.all_eq_true.1 f3 j (List.mem_range.2 hj)
        rw [ho'] at this
        simp only [Bool.and_eq_true, Option.isNone_iff_eq_none, Bool.or_eq_true, beq_iff_eq, j1, j2, false_or, bne_iff_ne, ne_eq, Bool.not_eq_true'] at this
        obtain ⟨g1, ⟨g2, g3⟩, g4⟩ := this
        refine ⟨g1, g2, fun y hy q => ?_, fun cs b q => ?_⟩
        · have h3 : o.op.operands.any (isTmp t) = true := by
            rw [Array.any_eq_true']
            exact ⟨y, hy, by rw [q]; simp [isTmp]⟩
          rw [h3] at g3; cases g3
        · rw [q] at g4; cases g4
      · rw [if_pos]
        simp only [Bool.and_eq_true, bne_iff_ne, ne_eq, Bool.not_eq_true']
        refine ⟨hne, ?_, hx⟩
        simp only [lateFit, Bool.and_eq_true]
        exact ⟨f1, f2, f3⟩
    · rename_i hc
      left
      have : cops = [] := List.length_eq_zero_iff.1 hl.symm
      (first | (rw [this]; done) | (rw [this]; simp))
  · left
    have : cops = [] := List.length_eq_zero_iff.1 hl.symm
    (first | (rw [this]; done) | (rw [this]; simp))
end

/-- The block of a range's deferred calls is shut. -/
theorem SR.shut (hs : SR ρ I h w) {D : Nat} {ds ds' : Option (List Deferred)} (hD : w.heap[D]? = some (.deferred ds)) (hI : ¬ I D) :
    SR ρ I h (w.putObj D (.deferred ds')) ∧ ∀ u v, VR ρ I w u v → VR ρ I (w.putObj D (.deferred ds')) u v := by
  have hother : ∀ b, b ≠ D → (w.putObj D (.deferred ds')).heap[b]? = w.heap[b]? := fun b hb => World.putObj_heap_other hb
  have hvr : ∀ u v, VR ρ I w u v → VR ρ I (w.putObj D (.deferred ds')) u v := fun u v hv =>
    hv.mono (fun _ _ e => e) (fun _ e => e) (fun b hb => hother b fun e => hI (e ▸ hb)) fun b C T f e => ⟨C, f, (hother b fun q => by rw [q, hD] at e; cases e).trans e, rfl⟩
  refine ⟨⟨fun i B e => ?_, hs.inj, hs.apart, hs.nx, fun b hb => by rw [World.putObj_size]; exact hs.inI b hb, hs.typ.mono (fun _ _ e => e) fun b C T f e => ⟨C, f, (hother b fun q => by rw [q, hD] at e; cases e).trans e, rfl⟩⟩, hvr⟩
  obtain ⟨b, o, e1, e2⟩ := hs.live i B e
  refine ⟨b, o, e1, ?_⟩
  cases B with
  | cells cs =>
    obtain ⟨C, T, g1, g2, g3, g4⟩ := e2
    exact ⟨C, T, (hother b fun q => by rw [q, hD] at g1; cases g1).trans g1, g2, fun j hj => hvr _ _ (g3 j hj), g4⟩
  | map es =>
    obtain ⟨M, k, g1, g2, g3⟩ := e2
    exact ⟨M, k, (hother b fun q => by rw [q, hD] at g1; cases g1).trans g1, g2, fun j hj hj' => ⟨hvr _ _ (g3 j hj hj').1, hvr _ _ (g3 j hj hj').2⟩⟩
  | loop st L =>
    obtain ⟨rc, x, g1, g2, g3, g4, g5⟩ := e2
    exact ⟨rc, x, (hother b fun q => by rw [q, hD] at g1; cases g1).trans g1, g2, g3, g4, fun t => hvr _ _ (g5 t)⟩

omit [LoopSpec] in
theorem St.shut {ρ0 : Nat → Option (Nat × Nat)} {I0 : Nat → Prop} {h0 : AH} {w0 : World} (st : St ρ0 I0 h0 w0 ρ I h w) {D : Nat} {o : Obj} (hD : w0.heap.size ≤ D) : St ρ0 I0 h0 w0 ρ I h (w.putObj D o) where
  ext := st.ext
  imm := st.imm
  immNew := st.immNew
  os := st.os
  tape := st.tape
  output := st.output
  size := by rw [World.putObj_size]; exact st.size
  keep := fun b hb hn => (World.putObj_heap_other (by omega)).trans (st.keep b hb hn)
  row := fun b C T f e => by
    obtain ⟨C', f', e1, e2⟩ := st.row b C T f e
    have hb : b < w0.heap.size := by
      rcases Nat.lt_or_ge b w0.heap.size with q | q
      · exact q
      · rw [Array.getElem?_eq_none q] at e; cases e
    exact ⟨C', f', (World.putObj_heap_other (by omega)).trans e1, e2⟩
  oth := fun b => by
    by_cases hb : b < w0.heap.size
    · obtain ⟨k1, k2⟩ := st.oth b
      have : (w.putObj D o).heap[b]? = w.heap[b]? := World.putObj_heap_other (by omega)
      exact ⟨fun rc e => by rw [this]; exact k1 rc e, fun d e => by rw [this]; exact k2 d e⟩
    · have : w0.heap[b]? = none := Array.getElem?_eq_none (by omega)
      exact ⟨fun rc e => (by rw [this] at e; cases e), fun d e => (by rw [this] at e; cases e)⟩
  own := st.own
  nxle := st.nxle
  low := st.low

/-- What a range over a function lays. -/
theorem enter_ok {r : Option Nat} {L : CLoop} {ps : Array Tmp} {x y : Code} (hnm : Bo.2.2 = false) (hr : RIn r w) (hf : FR Bo ρ I w nt a s) (hs : SR ρ I h w) (hok : LoopSpec.ok L.ps L.asg L.body ps x y a.tmps.size) (hL : L.s = s) (fn : FuncId) :
    ∃ l mark w1, (Instr.enterLoop fn a.tmps ps x y r).run P w = .ok (l, mark) w1 ∧ SR (upd ρ h.nx (l, 0)) I (h.push (.loop .ready L)) w1 ∧ St ρ I h w (upd ρ h.nx (l, 0)) I (h.push (.loop .ready L)) w1 ∧ DfR Bo I w1 (mark ++ a.defers) := by
  subst hL
  have step : ∀ (w0 : World) (df : Nat), SR ρ I h w0 → St ρ I h w ρ I h w0 →
      SR (upd ρ h.nx (w0.heap.size, 0)) I (h.push (.loop .ready L)) (w0.alloc (.loop { state := .ready, pending := none, fn, tmps := a.tmps, params := ps, assign := x, body := y, defers := df })) ∧
      St ρ I h w (upd ρ h.nx (w0.heap.size, 0)) I (h.push (.loop .ready L)) (w0.alloc (.loop { state := .ready, pending := none, fn, tmps := a.tmps, params := ps, assign := x, body := y, defers := df })) := by
    intro w0 df hs0 st0
    obtain ⟨k1, k2⟩ := hs0.new (B := .loop .ready L) (w' := w0.alloc (.loop { state := .ready, pending := none, fn, tmps := a.tmps, params := ps, assign := x, body := y, defers := df })) rfl rfl rfl (by simp)
      (fun b hb => by show (w0.heap.push _)[b]? = _; rw [Array.getElem?_push_lt hb, Array.getElem?_eq_getElem hb]) (fun st => ⟨_, (), World.alloc_heap_new w0 _, rfl, rfl, hok, fun t => ((hf.slot t).step hs st0).step hs0 st⟩)
    exact ⟨k1, st0.trans k2⟩
  cases r with
  | none =>
    obtain ⟨k1, k2⟩ := hs.grow (w' := w.alloc (.deferred (some []))) (I' := I) rfl rfl rfl (by simp) (fun b hb => by show (w.heap.push _)[b]? = _; rw [Array.getElem?_push_lt hb, Array.getElem?_eq_getElem hb]) (fun _ e => e) (fun _ e => .inl e) (fun b hb => by have := hs.inI b hb; simp; omega)
    obtain ⟨g1, g2⟩ := step _ w.heap.size k1 k2
    refine ⟨w.heap.size + 1, _, _, run_enterLoop_outer fn a.tmps ps x y, by simpa using g1, by simpa using g2, ?_⟩
    obtain ⟨Ds, e1, e2, e3, e5, e4⟩ := hf.defers.step g2.size (fun b q => .inl q) g2.oth
    obtain ⟨Ds0, f1, f2, f3, f5, f4⟩ := hf.defers
    refine ⟨w.heap.size :: Ds0, by rw [f1]; rfl, List.nodup_cons.2 ⟨fun q => ?_, f2⟩, e3, (fun q => by rw [hnm] at q; cases q), fun D hD => ?_⟩
    · have := (f4 _ q).2.2
      rw [Array.getElem?_eq_none (Nat.le_refl _)] at this; cases this
    · rcases List.mem_cons.1 hD with rfl | hD
      · refine ⟨f3, fun q => Nat.lt_irrefl _ (hs.inI _ q), ?_⟩
        show ((w.heap.push _).push _)[w.heap.size]? = _
        simp [Array.getElem?_push]
      · obtain ⟨q1, q2, q3⟩ := f4 D hD
        exact ⟨q1, q2, (g2.oth D).2 _ q3⟩
  | some l0 =>
    obtain ⟨rec, hrec⟩ := hr l0 rfl
    obtain ⟨g1, g2⟩ := step w rec.defers hs .refl
    exact ⟨w.heap.size, [], _, run_enterLoop_inner hrec fn a.tmps ps x y, g1, g2, hf.defers.step g2.size (fun b q => .inl q) g2.oth⟩

omit [LoopSpec] in
/-- What is yielded, in its slots. -/
theorem puts_ok : ∀ (ps : List Nat) (us : List Value) (as : List PV) (tm : Array Value) (s : Fr), us.length = as.length → ps.length = as.length → (∀ j (hj : j < as.length), VR ρ I w (us.getD j undef) as[j]) → nt ≤ tm.size → (∀ p ∈ ps, p < nt) →
    (∀ t, VR ρ I w (tm.getD t undef) (s t)) → nt ≤ ((ps.zip us).foldl (fun tmps (x : Nat × Value) => tmps.setIfInBounds x.1 x.2) tm).size ∧
      ∀ t, VR ρ I w (((ps.zip us).foldl (fun tmps (x : Nat × Value) => tmps.setIfInBounds x.1 x.2) tm).getD t undef) (putsL s ps as t)
  | [], us, as, tm, s, h1, h2, h3, h4, h5, h6 => by
    simp only [List.zip_nil_left, List.foldl_nil]
    exact ⟨h4, fun t => by simp only [putsL]; exact h6 t⟩
  | p :: ps, [], as, tm, s, h1, h2, h3, h4, h5, h6 => by simp at h1 h2; omega
  | p :: ps, u :: us, [], tm, s, h1, h2, h3, h4, h5, h6 => by simp at h1
  | p :: ps, u :: us, v :: as, tm, s, h1, h2, h3, h4, h5, h6 => by
    simp only [List.zip_cons_cons, List.foldl_cons, putsL]
    have hp : p < nt := h5 p (by simp)
    refine puts_ok ps us as _ _ (by simpa using h1) (by simpa using h2) (fun j hj => ?_) (by simpa using h4) (fun q hq => h5 q (by simp [hq])) fun t => ?_
    · have := h3 (j + 1) (by simpa using hj)
      simpa using this
    · have h0 := h3 0 (by simp)
      simp only [List.getD_cons_zero, List.getElem_cons_zero] at h0
      by_cases ht : t = p
      · subst ht
        have : (tm.setIfInBounds t u).getD t undef = u := by
          have hlt : t < tm.size := Nat.lt_of_lt_of_le hp h4
          simp [Array.getD, hlt]
        rw [this]; simpa [Fr.put] using h0
      · have : (tm.setIfInBounds p u).getD t undef = tm.getD t undef := by
          simp only [Array.getD_eq_getD_getElem?]
          rw [Array.getElem?_setIfInBounds_ne (fun e => ht e.symm)]
        rw [this]
        simp only [Fr.put, if_neg ht]
        exact h6 t

omit [LoopSpec] in
theorem AH.set_del (h : AH) (i : Nat) (B : Blk) : (h.set i B).del i = h.del i := by
  simp only [AH.set, AH.del]
  congr 1
  funext j
  by_cases e : j = i <;> simp [e]

omit [LoopSpec] in
/-- A late alloc, and checks on the other operations. -/
theorem sepLate_inv {ow : Nat → Nat} {all : Array Oper} {ops : List Oper} {cops L : List COper} {ia is t n : Nat} {x : Opd} {zs : List PV} (hpair : ∀ (i : Nat) o c, all[i]? = some o → cops[i]? = some c → Pair P ow nt all o c) (hcl : cops.length = all.size)
    (hia : cops[ia]? = some ⟨some t, .alloc zs, none⟩) (his : cops[is]? = some ⟨none, .store n (.t t) x, none⟩) (hne : ia ≠ is) (hL : L = (cops.set ia ⟨some t, .mov (.c .undef), none⟩).set is ⟨some t, .boxN n x, none⟩) :
    ∃ C : List COper, C.length = all.size ∧ (∀ (i : Nat) o c, all[i]? = some o → C[i]? = some c → Pair P ow nt all o c) ∧ C[ia]? = some ⟨some t, .alloc zs, none⟩ ∧ C[is]? = some ⟨none, .store n (.t t) x, none⟩ ∧
      sepCops pu ops L = (C.set ia ⟨some t, .mov (.c .undef), none⟩).set is ⟨some t, .boxN n x, none⟩ := by
  have ial : ia < cops.length := by
    rcases Nat.lt_or_ge ia cops.length with q | q
    · exact q
    · rw [List.getElem?_eq_none q] at hia; cases hia
  have isl : is < cops.length := by
    rcases Nat.lt_or_ge is cops.length with q | q
    · exact q
    · rw [List.getElem?_eq_none q] at his; cases his
  obtain ⟨l1, l2⟩ := sepFrom_get (pu := pu) (B := befs [] (ops.map edges)) (all := L) L 0
  have hLl : L.length = cops.length := by rw [hL]; simp
  have hS : (sepCops pu ops L).length = cops.length := l1.trans hLl
  have hget : ∀ (i : Nat), L[i]? = if is = i then some ⟨some t, .boxN n x, none⟩ else if ia = i then some ⟨some t, .mov (.c .undef), none⟩ else cops[i]? := by
    intro i
    rw [hL, List.getElem?_set]
    by_cases h1 : is = i
    · rw [if_pos h1, if_pos h1, if_pos (by simpa [← h1] using isl)]
    · rw [if_neg h1, if_neg h1, List.getElem?_set]
      by_cases h2 : ia = i
      · rw [if_pos h2, if_pos h2, if_pos ial]
      · rw [if_neg h2, if_neg h2]
  let C := ((sepCops pu ops L).set ia ⟨some t, .alloc zs, none⟩).set is ⟨none, .store n (.t t) x, none⟩
  have hC : ∀ (i : Nat), C[i]? = if is = i then some ⟨none, .store n (.t t) x, none⟩ else if ia = i then some ⟨some t, .alloc zs, none⟩ else (sepCops pu ops L)[i]? := by
    intro i
    show (((sepCops pu ops L).set ia _).set is _)[i]? = _
    rw [List.getElem?_set]
    by_cases h1 : is = i
    · rw [if_pos h1, if_pos h1, if_pos (by simp [hS]; exact isl)]
    · rw [if_neg h1, if_neg h1, List.getElem?_set]
      by_cases h2 : ia = i
      · rw [if_pos h2, if_pos h2, if_pos (by rw [hS]; exact ial)]
      · rw [if_neg h2, if_neg h2]
  have hCl : C.length = cops.length := by show (((sepCops pu ops L).set ia _).set is _).length = _; simp [hS]
  refine ⟨C, hCl.trans hcl, fun i o c ho hc => ?_, by rw [hC, if_neg (Ne.symm hne), if_pos rfl], by rw [hC, if_pos rfl], ?_⟩
  · rw [hC] at hc
    split at hc
    · rename_i h1; subst h1; rw [← his] at hc; exact hpair is o c ho hc
    · split at hc
      · rename_i h2; subst h2; rw [← hia] at hc; exact hpair ia o c ho hc
      · rename_i h1 h2
        obtain ⟨c0, ts, hc0, rfl⟩ := l2 i c hc
        rw [hget, if_neg h1, if_neg h2] at hc0
        exact (hpair i o c0 ho hc0).sep
  · apply List.ext_getElem?
    intro i
    rw [List.getElem?_set]
    by_cases h1 : is = i
    · subst h1
      rw [if_pos rfl, if_pos (by simp [hCl]; exact isl)]
      have hlt : is < (sepCops pu ops L).length := by rw [hS]; exact isl
      obtain ⟨c0, ts, hc0, hq⟩ := l2 is _ (List.getElem?_eq_getElem hlt)
      rw [hget, if_pos rfl] at hc0
      cases hc0
      rw [List.getElem?_eq_getElem hlt]
      exact congrArg some hq
    · rw [if_neg h1, List.getElem?_set]
      by_cases h2 : ia = i
      · subst h2
        rw [if_pos rfl, if_pos (by rw [hCl]; exact ial)]
        have hlt : ia < (sepCops pu ops L).length := by rw [hS]; exact ial
        obtain ⟨c0, ts, hc0, hq⟩ := l2 ia _ (List.getElem?_eq_getElem hlt)
        rw [hget, if_neg h1, if_pos rfl] at hc0
        cases hc0
        rw [List.getElem?_eq_getElem hlt]
        exact congrArg some hq
      · rw [if_neg h2, hC, if_neg h1, if_neg h2]

/-- Code, given calls at every smaller amount of fuel. -/
theorem code_sound (ht : TOk P pu T) (hgb : gate T = true → Bo.2.2 = false) (n : Nat)
    (hok : ∀ m, m < n → CallOk P (callW T (evC T m)) ∧ PureOk pu (callW T (evC T m)) ∧ WfOk (callW T (evC T m))) :
    ∀ k, k ≤ n → ∀ (c : Code) (ow : Nat → Nat) (nt : Nat) (s : Fr) (h : AH) (e : EX) (s' : Fr) (h' : AH), evC T k (compCode P pu ow nt c) s h = some (e, s', h') →
    ∀ (r : Option Nat) (a : Act) (w : World) (ρ : Nat → Option (Nat × Nat)) (I : Nat → Prop) (Q : Exit → Act → World → Prop), RIn r w → FR Bo ρ I w nt a s → SR ρ I h w →
      (∀ a' w' ρ' I', St ρ I h w ρ' I' h' w' → SR ρ' I' h' w' → FR Bo ρ' I' w' nt a' s' → Q e.to a' w') → c.wpIn (FW r) 0 P Q a w := by
  intro k
  induction k using Nat.strongRecOn with
  | _ k ih =>
    intro hk c ow nt
    cases k with
    | zero => intro s h e s' h' ev; cases ev
    | succ k =>
      induction c with
      | skip =>
        intro s h e s' h' ev r a w ρ I Q hr hf hs hQ
        simp only [compCode, evC] at ev
        cases ev
        exact wpIn_skip (hQ a w ρ I .refl hs hf)
      | label l =>
        intro s h e s' h' ev r a w ρ I Q hr hf hs hQ
        simp only [compCode, evC] at ev
        cases ev
        exact wpIn_label (hQ a w ρ I .refl hs hf)
      | exit id =>
        intro s h e s' h' ev r a w ρ I Q hr hf hs hQ
        simp only [compCode, evC] at ev
        cases ev
        exact wpIn_exit (hQ a w ρ I .refl hs hf)
      | ret =>
        intro s h e s' h' ev r a w ρ I Q hr hf hs hQ
        simp only [compCode, evC] at ev
        cases ev
        exact wpIn_ret (hQ a w ρ I .refl hs hf)
      | seq x y _ _ =>
        intro s h e s' h' ev r a w ρ I Q hr hf hs hQ
        simp only [compCode, evC] at ev
        cases h1 : evC T k (compCode P pu ow nt x) s h with
        | none => simp [h1] at ev
        | some p =>
          obtain ⟨e1, s1, hh1⟩ := p
          rw [h1] at ev
          refine wpIn_seq (ih k (by omega) (by omega) x ow nt s h e1 s1 hh1 h1 r a w ρ I _ hr hf hs fun a' w' ρ' I' st hs' hf' => ?_)
          cases e1 with
          | nrm =>
            simp only at ev
            exact ih k (by omega) (by omega) y ow nt s1 hh1 e s' h' ev r a' w' ρ' I' Q (hr.step st.oth) hf' hs' fun a2 w2 ρ2 I2 st2 hs2 hf2 => hQ a2 w2 ρ2 I2 (st.trans st2) hs2 hf2
          | exit i => cases ev; exact hQ a' w' ρ' I' st hs' hf'
          | ret => cases ev; exact hQ a' w' ρ' I' st hs' hf'
      | cond c x y _ _ =>
        intro s h e s' h' ev r a w ρ I Q hr hf hs hQ
        simp only [compCode] at ev
        cases ho : opd c with
        | none => simp [ho, evC] at ev
        | some C =>
          simp only [ho, evC] at ev
          have hv := opd_vr ho hf
          split at ev
          · rename_i hb
            rw [hb] at hv
            exact wpIn_cond_true hv.bool_inv (ih k (by omega) (by omega) x ow nt s h e s' h' ev r a w ρ I Q hr hf hs hQ)
          · rename_i hb
            rw [hb] at hv
            exact wpIn_cond_false hv.bool_inv (ih k (by omega) (by omega) y ow nt s h e s' h' ev r a w ρ I Q hr hf hs hQ)
          · cases ev
      | block id x _ =>
        intro s h e s' h' ev r a w ρ I Q hr hf hs hQ
        simp only [compCode, evC] at ev
        cases h1 : evC T k (compCode P pu ow nt x) s h with
        | none => simp [h1] at ev
        | some p =>
          obtain ⟨e1, s1, hh1⟩ := p
          rw [h1] at ev
          refine wpIn_block (ih k (by omega) (by omega) x ow nt s h e1 s1 hh1 h1 r a w ρ I _ hr hf hs fun a' w' ρ' I' st hs' hf' => ?_)
          cases e1 with
          | nrm => cases ev; exact hQ a' w' ρ' I' st hs' hf'
          | ret => cases ev; exact hQ a' w' ρ' I' st hs' hf'
          | exit i =>
            cases ev
            have := hQ a' w' ρ' I' st hs' hf'
            simp only [EX.to, Exit.inBlock]
            by_cases q : i = id
            · rw [if_pos q] at this ⊢; exact this
            · rw [if_neg q] at this ⊢; exact this
      | loop x _ =>
        intro s h e s' h' ev r a w ρ I Q hr hf hs hQ
        simp only [compCode] at ev
        refine wpIn_loop_rounds (k + 1) (rounds_seq (T := T) (n := k + 1) (fun m hm s h e s' h' ev => ih m hm (by omega) x ow nt s h e s' h' ev r) (k + 1) (Nat.le_refl _) s h ev a w ρ I hr hf hs hQ)
      | scope x ihx =>
        intro s h e s' h' ev r a w ρ I Q hr hf hs hQ
        simp only [compCode] at ev
        refine wpIn_scope (ihx s h e s' h' ev r a w ρ I _ hr hf hs fun a' w' ρ' I' st hs' hf' => ?_)
        have := hQ a' w' ρ' I' st hs' hf'
        cases e <;> exact this
      | region id ops draw =>
        intro s h e s' h' ev r a w ρ I Q hr hf hs hQ
        obtain ⟨c1, c2, c3⟩ := hok k (by omega)
        simp only [compCode] at ev
        split at ev
        · rename_i cops hcops
          obtain ⟨g1, g2⟩ := compOpers_get _ _ hcops
          have hcl : cops.length = ops.size := by simpa using g1
          have hpair : ∀ (i : Nat) o c, ops[i]? = some o → cops[i]? = some c → Pair P ow nt ops o c := fun i o c ho hc => g2 i o c (by simpa using ho) hc
          have hlist : ∀ i o, isL (Array.replicate ops.size false) i = true → ops[i]? = some o → ∀ e ∈ edges o, isL (Array.replicate ops.size false) e = true := by
            intro i o hi
            simp only [isL, Array.getD_eq_getD_getElem?, Array.getElem?_replicate] at hi
            split at hi <;> simp at hi
          have hrem : remOf ops.size (Array.replicate ops.size false) = List.range ops.size := by
            unfold remOf
            rw [List.filter_eq_self]
            intro j hj
            simp only [isL, Array.getD_eq_getD_getElem?, Array.getElem?_replicate]
            split <;> rfl
          have hfuel : (remOf ops.size (Array.replicate ops.size false)).length ≤ ops.size := Nat.le_trans (List.length_filter_le _ _) (by simp)
          have hseqOf : ∀ {call : Nat → List PV → AH → Option (PV × AH)} {cops : List COper} {s s1 : Fr} {h h1 : AH}, cops.length = ops.size → evOps call cops s h = some (s1, h1) → evSeq call cops (List.range ops.size) s h = some (s1, h1) := by
            intro call cops s s1 h h1 hcl hev
            have := evSeq_range (call := call) cops cops [] s h rfl
            rw [hev] at this
            rw [← hcl, List.range_eq_range']
            exact this.symm
          -- a drawn region in the order of the text
          have drawn : ∀ (cops : List COper) (ev : evC T (k + 1) (.reg cops) s h = some (e, s', h')), cops.length = ops.size → (∀ (i : Nat) o c, ops[i]? = some o → cops[i]? = some c → Pair P ow nt ops o c) → drawOk pu ops.toList cops = true → P.follows .mixedOrders = true → (Code.region id ops true).wpIn (FW r) 0 P Q a w := by
            intro cops ev hcl hpair hdr hfo
            simp only [evC] at ev
            split at ev
            · rename_i s1 h1 hev
              cases ev
              obtain ⟨st, hs2⟩ : SR ρ I h w.drew ∧ St ρ I h w ρ I h w.drew := hs.drew
              exact wpIn_region_any hfo (wpAny_seq hcl hpair c1 c2 c3 hdr ops.size _ a w.drew ρ I s h (by simp) hfuel hlist (hf.step hs hs2) st (by rw [hrem]; exact hseqOf hcl hev) fun a' w' ρ' I' st2 hs3 hf3 => hQ a' w' ρ' I' (hs2.trans st2) hs3 hf3)
            · cases ev
          cases draw with
          | false =>
            simp only [Bool.not_false, Bool.true_or, if_true, evC] at ev
            split at ev
            · rename_i s1 h1 hev
              cases ev
              exact wpIn_region (wpOps_seq hcl hpair c1 _ a w ρ I s h hf hs (hseqOf hcl hev) hQ)
            · cases ev
          | true =>
            simp only [Bool.not_true, Bool.false_or] at ev
            split at ev
            · rename_i hdr
              simp only [Bool.and_eq_true] at hdr
              exact drawn cops ev hcl hpair hdr.1 hdr.2
            · split at ev
              · rename_i hdr
                simp only [Bool.and_eq_true] at hdr
                obtain ⟨l1, l2⟩ := sepFrom_get (pu := pu) (B := befs [] (ops.toList.map edges)) (all := cops) cops 0
                refine drawn _ ev (l1.trans hcl) (fun i o c ho hc => ?_) hdr.1 hdr.2
                obtain ⟨c0, ts, hc0, rfl⟩ := l2 i c hc
                exact (hpair i o c0 ho hc0).sep
              · split at ev
                · rename_i hdr
                  simp only [Bool.and_eq_true] at hdr
                  refine drawn _ ev (by rw [loadiCops, List.length_map]; exact hcl) (fun i o c ho hc => ?_) hdr.1 hdr.2
                  simp only [loadiCops, List.getElem?_map, Option.map_eq_some_iff] at hc
                  obtain ⟨c0, hc0, rfl⟩ := hc
                  exact (hpair i o c0 ho hc0).loadi
                split at ev
                · rename_i hdr
                  simp only [Bool.and_eq_true] at hdr
                  obtain ⟨⟨hsafe, hd⟩, hfo⟩ := hdr
                  obtain ⟨l1, l2⟩ := resCops_get cops 0
                  simp only [resSafe, Bool.and_eq_true, List.all_eq_true, decide_eq_true_eq] at hsafe
                  obtain ⟨hs1, hnd⟩ := hsafe
                  cases k with
                  | zero => simp [evC] at ev
                  | succ k =>
                    obtain ⟨c1', c2', c3'⟩ := hok k (by omega)
                    have hresv : evC T (k + 1) (.reg [⟨none, .resv cops.length, none⟩]) s h = some (.nrm, s, ⟨h.nx + cops.length, h.lo, h.blk, h.ty⟩) := rfl
                    have ev' : evC T (k + 1) (.reg (resCops 0 cops)) s ⟨h.nx + cops.length, h.lo, h.blk, h.ty⟩ = some (e, s', h') := by
                      have : evC T (k + 1 + 1) (.seq (.reg [⟨none, .resv cops.length, none⟩]) (.reg (resCops 0 cops))) s h = evC T (k + 1) (.reg (resCops 0 cops)) s ⟨h.nx + cops.length, h.lo, h.blk, h.ty⟩ := by
                        conv => lhs; unfold evC
                        simp only [hresv]
                      rw [← this]; exact ev
                    simp only [evC] at ev'
                    split at ev'
                    · rename_i s1 h1 hev
                      cases ev'
                      obtain ⟨st, hs2⟩ : SR ρ I h w.drew ∧ St ρ I h w ρ I h w.drew := hs.drew
                      refine wpIn_region_any hfo (wpAny_res (ow := ow) (m := cops.length) (n0 := h.nx) (l1.trans hcl) (fun i o c ho hc => ?_) (nodup_keys hnd) c1' c2' c3' hd ops.size _ a w.drew ρ I s h (by simp) hfuel hlist (hf.step hs hs2) st rfl (by rw [hrem]; exact hseqOf (l1.trans hcl) hev) fun a' w' ρ' I' st2 hs3 hf3 => hQ a' w' ρ' I' (hs2.trans st2) hs3 hf3)
                      have hsc := hs1 c (List.mem_of_getElem? hc)
                      obtain ⟨c0, hc0, q⟩ := l2 i c hc
                      have hp0 := hpair i o c0 ho hc0
                      have cls01 : resK c.op = none → cls pu c.op = 0 ∨ cls pu c.op = 1 := fun hr => by
                        rw [hr] at hsc
                        simpa using hsc
                      rcases q with rfl | ⟨g, n, x, hop, rfl⟩ | ⟨kk, z, b, zs, l, l', hop, rfl⟩
                      · left
                        have hr : resK c.op = none := by
                          cases hq : resK c.op with
                          | none => rfl
                          | some kk =>
                            exfalso
                            obtain ⟨z, b, zs, l, l', hR⟩ := resK_inv hq
                            rcases hp0.op with ⟨bb, cc, hcomp, hcv⟩ | hb
                            · rw [hR] at hcv
                              rcases hcv with rfl | ⟨_, _, _, _, _, q⟩ | ⟨_, _, _, _, _, _, q⟩ | ⟨_, _, _, _, q⟩ | ⟨_, _, _, _, q⟩
                              · exact compOp_noR hcomp
                              all_goals cases q
                            · rw [hR] at hb; cases hb
                        exact ⟨hr, hp0, cls01 hr⟩
                      · left
                        refine ⟨rfl, ⟨hp0.dst, ?_, hp0.dlt, hp0.guard⟩, cls01 rfl⟩
                        rcases hp0.op with ⟨bb, cc, hcomp, hcv⟩ | hb
                        · left
                          rw [hop] at hcv
                          refine ⟨bb, cc, hcomp, ?_⟩
                          rcases hcv with rfl | ⟨_, _, _, _, _, q⟩ | ⟨_, _, _, _, _, _, q⟩ | ⟨_, _, _, _, q⟩ | ⟨_, _, _, _, q⟩
                          · exact .inr (.inr (.inr (.inl ⟨_, _, _, rfl, rfl⟩)))
                          all_goals cases q
                        · rw [hop] at hb; cases hb
                      · right
                        simp only [resK, decide_eq_true_eq] at hsc
                        refine ⟨kk, z, b, zs, l, l', hsc, rfl, ?_, ?_⟩
                        · have : ({ c0 with op := .mkslice z b zs l l' } : COper) = c0 := by rw [← hop]
                          show Pair P ow nt ops o { c0 with op := .mkslice z b zs l l' }
                          rw [this]; exact hp0
                        · rcases hp0.op with ⟨bb, cc, hcomp, hcv⟩ | hb
                          · rw [hop] at hcv
                            rcases hcv with rfl | ⟨_, _, _, _, _, q⟩ | ⟨_, _, _, _, _, _, q⟩ | ⟨_, _, _, _, q⟩ | ⟨_, _, _, _, q⟩
                            · exact ⟨bb, hcomp⟩
                            all_goals cases q
                          · rw [hop] at hb; cases hb
                    · cases ev'
                · split at ev
                  · rename_i hdr
                    simp only [Bool.and_eq_true, decide_eq_true_eq] at hdr
                    obtain ⟨⟨hle, hd⟩, hfo⟩ := hdr
                    rcases lateCops_inv hle with q | ⟨ia, is, t, nn, x, zs, q1, q2, q3, q4, q5, q6, q7, q8⟩
                    · rw [q] at ev hd
                      exact drawn cops ev hcl hpair hd hfo
                    · rw [q8] at ev hd
                      simp only [evC] at ev
                      split at ev
                      · rename_i s1 h1 hev
                        cases ev
                        obtain ⟨st, hs2⟩ : SR ρ I h w.drew ∧ St ρ I h w ρ I h w.drew := hs.drew
                        have hl0 : ∀ i, isL (Array.replicate ops.size false) i = false := fun i => by
                          simp only [isL, Array.getD_eq_getD_getElem?, Array.getElem?_replicate]
                          split <;> rfl
                        exact wpIn_region_any hfo (wpAny_late hcl hpair q1 q2 q3 q4 q5 q6 q7 c1 c2 c3 hd ops.size _ a w.drew ρ I s h (by simp) hfuel hl0 (hf.step hs hs2) st (by rw [hrem]; exact hseqOf (by simpa using hcl) hev) fun a' w' ρ' I' st2 hs3 hf3 => hQ a' w' ρ' I' (hs2.trans st2) hs3 hf3)
                      · cases ev
                  · split at ev
                    · rename_i hdr
                      simp only [Bool.and_eq_true, decide_eq_true_eq] at hdr
                      obtain ⟨⟨hle, hd⟩, hfo⟩ := hdr
                      rcases lateCops_inv hle with q | ⟨ia, is, t, nn, x, zs, q1, q2, q3, q4, q5, q6, q7, q8⟩
                      · rw [q] at ev hd
                        obtain ⟨l1, l2⟩ := sepFrom_get (pu := pu) (B := befs [] (ops.toList.map edges)) (all := cops) cops 0
                        refine drawn _ ev (l1.trans hcl) (fun i o c ho hc => ?_) hd hfo
                        obtain ⟨c0, ts, hc0, rfl⟩ := l2 i c hc
                        exact (hpair i o c0 ho hc0).sep
                      · obtain ⟨C, c1', c2', c3', c4', c5'⟩ := sepLate_inv (pu := pu) (ops := ops.toList) hpair hcl q1 q2 q3 q8
                        rw [c5'] at ev hd
                        simp only [evC] at ev
                        split at ev
                        · rename_i s1 h1 hev
                          cases ev
                          obtain ⟨st, hs2⟩ : SR ρ I h w.drew ∧ St ρ I h w ρ I h w.drew := hs.drew
                          have hl0 : ∀ i, isL (Array.replicate ops.size false) i = false := fun i => by
                            simp only [isL, Array.getD_eq_getD_getElem?, Array.getElem?_replicate]
                            split <;> rfl
                          exact wpIn_region_any hfo (wpAny_late c1' c2' c3' c4' q3 q4 q5 q6 q7 c1 c2 c3 hd ops.size _ a w.drew ρ I s h (by simp) hfuel hl0 (hf.step hs hs2) st (by rw [hrem]; exact hseqOf (by simpa using c1') hev) fun a' w' ρ' I' st2 hs3 hf3 => hQ a' w' ρ' I' (hs2.trans st2) hs3 hf3)
                        · cases ev
                    · simp [evC] at ev
        · simp [evC] at ev
      | rangeFunc g ps x y _ _ =>
        intro s h e s' h' ev r a w ρ I Q hr hf hs hQ
        simp only [compCode] at ev
        split at ev
        case h_2 => simp [evC] at ev
        rename_i X hX
        split at ev
        case isFalse => simp [evC] at ev
        rename_i hps
        simp only [evC] at ev
        split at ev
        case h_2 => cases ev
        rename_i gf fs cs hg
        split at ev
        case isFalse => cases ev
        rename_i hlt
        obtain ⟨hlt, hgate⟩ := hlt
        split at ev
        case h_2 => cases ev
        rename_i v1 h1 hcall
        have hv := opd_vr hX hf
        rw [hg] at hv
        obtain ⟨c1, c2, c3⟩ := hok k (by omega)
        have hyb : gf < yb := Nat.lt_trans hlt (by decide)
        obtain ⟨hcl, hcalls⟩ := c1.fn _ _ _ _ _ hyb hcall
        have hrl : rl gf = gf := Nat.mod_eq_of_lt hlt
        rw [hrl] at hcl hcalls
        have hok : LoopSpec.ok ps.toList (compCode P pu ow nt x) (compCode P pu ow nt y) ps x y a.tmps.size :=
          (ht.loops hgate _ _ _ _ _ _ _).2 ⟨ow, nt, hf.size, rfl, fun p hp => by simpa using List.all_eq_true.1 hps p hp, rfl, rfl⟩
        generalize hux : a.eval g = ux at hv
        cases hv with
        | fn q1 q2 q3 q4 =>
        rename_i F C
        refine wpIn_rangeFunc fun fn _ => ?_
        obtain ⟨l, mark, w1, e1, hs1, st1, hd1⟩ := enter_ok (P := P) (hgb hgate) (L := ⟨ps.toList, compCode P pu ow nt x, compCode P pu ow nt y, s⟩) hr hf hs hok rfl fn
        refine ⟨l, mark, w1, { target := .fn (.func gf) C, args := F ++ #[.func (.yield l) #[] #[]] }, w1, gf, F ++ #[.func (.yield l) #[] #[]] ++ C, w1, e1, ?_, fun f' _ => FW_fn, ?_, FW_depth, ?_⟩
        · simp only [resolve, hux]
          simp [Deferred.ofValue, Act.eval]
        · simp [invoke, run_callFunc hcl]
        · have hyl : VR (upd ρ h.nx (l, 0)) I w1 (.func (.yield l) #[] #[]) (.yl h.nx) := .yl (o := 0) (by simp [upd])
          have hvl : VRL (upd ρ h.nx (l, 0)) I w1 (F ++ #[.func (.yield l) #[] #[]] ++ C) (fs ++ [.yl h.nx] ++ cs) := by
            refine VRL.append (VRL.append ⟨q1, fun j hj => (q3 j hj).step hs st1⟩ ⟨rfl, fun j hj => ?_⟩) ⟨q2, fun j hj => (q4 j hj).step hs st1⟩
            have : j = 0 := by simpa using hj
            subst this
            exact hyl
          refine callsIn_FW.2 ((hcalls _ I w1 _ hs1 hvl).mono fun en w' he => ?_)
          obtain ⟨ρ', I', u, rfl, st2, hs2, _⟩ := he
          -- the record at the end
          have fin : ∀ (ex : EX) (st0 : LS) (L0 : CLoop), h1.blk h.nx = some (.loop st0 L0) → st0.st ≠ .busy → st0.pend = (LS.over ex).pend → s' = s → h' = h1.del h.nx → ex = e →
              rangePost (FW r) 0 P l Q { a with defers := mark ++ a.defers } (.returned u) w' := by
            intro ex st0 L0 hb hnb hpd hss hhh hee
            subst hss hhh hee
            obtain ⟨b, o, k1, rc, _, k2, k3, k4, k5, k6⟩ := hs2.live _ _ hb
            have : (l, 0) = (b, o) := by
              have := st2.ext h.nx (l, 0) (by simp [upd])
              rw [this] at k1
              exact Option.some.inj k1
            obtain ⟨rfl, rfl⟩ : l = b ∧ 0 = o := by simpa using this
            have hend := run_endLoop (P := P) k2 (by rw [k3]; exact hnb)
            have hw4 : w'.putObj l (.loop { rc with state := .exhausted }) = { w' with heap := w'.heap.setIfInBounds l (.loop { rc with state := (LS.over ex).st, pending := (LS.over ex).pend }) } := by
              rw [← hpd, ← k4]; rfl
            obtain ⟨m1, m2⟩ := hs2.loopTo (st' := .over ex) hb k1 k2 k5 k6 _ hw4
            obtain ⟨m3, m4⟩ := m1.gone h.nx
            rw [AH.set_del] at m3 m4
            have st4 := st2.trans (m2.trans m4)
            have hf4 : FR Bo ρ' I' (w'.putObj l (.loop { rc with state := .exhausted })) nt { a with defers := mark ++ a.defers } s' :=
              ⟨hf.size, hd1.step st4.size st4.immNew st4.oth, fun t => ((hf.slot t).step hs st1).step hs1 st4⟩
            refine ⟨rc.pending, _, hend, ?_⟩
            have hpe : rc.pending = (LS.over ex).pend := k4.trans hpd
            generalize w'.putObj l (.loop { rc with state := .exhausted }) = w4 at *
            rw [hpe]
            have hQ' := hQ _ _ ρ' I' (st1.trans st4) m3 hf4
            cases ex with
            | nrm => exact hQ'
            | ret => exact wpIn_ret hQ'
            | exit id => exact wpIn_exit hQ'
          split at ev
          · rename_i L0 hb
            cases ev
            exact fin .nrm .ready L0 hb (by simp [LS.st]) rfl rfl rfl rfl
          · rename_i ex L0 hb
            cases ev
            exact fin _ (.done _) L0 hb (by simp [LS.st]) (by cases e <;> rfl) rfl rfl rfl
          · cases ev
      | _ => intro s h e s' h' ev; simp [compCode, evC] at ev
end
end Go.Ev

/- Calls: the abstract machine's evaluator is sound. -/
set_option linter.unusedVariables false
set_option linter.unusedSimpArgs false
namespace Go.Ev
variable [LoopSpec]
section
variable {P : Program} {pu : Nat → Bool} {T : Nat → Option Fun} {ρ : Nat → Option (Nat × Nat)} {I : Nat → Prop} {h h' : AH} {w : World} {nt : Nat} {Bo : Nat × List Deferred × Bool} {a : Act} {s s' : Fr} {u : Value} {v : PV}

omit [LoopSpec] in
theorem allO_spec {f : PV → Option PV} : ∀ (vs us : List PV), allO f vs = some us → us.length = vs.length ∧ ∀ j (hj : j < vs.length) (hj' : j < us.length), f vs[j] = some us[j]
  | [], us, e => by cases e; exact ⟨rfl, fun j hj => absurd hj (Nat.not_lt_zero _)⟩
  | v :: vs, us, e => by
    simp only [allO] at e
    split at e
    · rename_i x xs h1 h2
      cases e
      obtain ⟨g1, g2⟩ := allO_spec vs xs h2
      refine ⟨by simp [g1], fun j hj hj' => ?_⟩
      cases j with
      | zero => exact h1
      | succ j => exact g2 j (by simpa using hj) (by simpa using hj')
    · cases e

omit [LoopSpec] in
theorem allO_mono {f g : PV → Option PV} (hfg : ∀ v u, f v = some u → g v = some u) : ∀ (vs us : List PV), allO f vs = some us → allO g vs = some us
  | [], us, e => e
  | v :: vs, us, e => by
    simp only [allO] at e ⊢
    split at e
    · rename_i x xs h1 h2
      rw [hfg _ _ h1, allO_mono hfg vs xs h2]
      exact e
    · cases e

omit [LoopSpec] in
theorem snap_le (hl : h.le h') : ∀ (d : Nat) (v u : PV), snap h d v = some u → snap h' d v = some u
  | 0, v, _, e => by cases v <;> simp only [snap] at e ⊢ <;> exact e
  | d + 1, v, u, e => by
    have ih := snap_le hl d
    have ihm : ∀ {vs us : List PV}, allO (snap h d) vs = some us → allO (snap h' d) vs = some us := fun e => allO_mono ih _ _ e
    cases v
    case sl n cs =>
      simp only [snap, Option.map_eq_some_iff] at e ⊢
      obtain ⟨us, e1, e2⟩ := e
      exact ⟨us, ihm e1, e2⟩
    case pi cs =>
      simp only [snap, Option.map_eq_some_iff] at e ⊢
      obtain ⟨us, e1, e2⟩ := e
      exact ⟨us, ihm e1, e2⟩
    case agg cs =>
      simp only [snap, Option.map_eq_some_iff] at e ⊢
      obtain ⟨us, e1, e2⟩ := e
      exact ⟨us, ihm e1, e2⟩
    case tup cs =>
      simp only [snap, Option.map_eq_some_iff] at e ⊢
      obtain ⟨us, e1, e2⟩ := e
      exact ⟨us, ihm e1, e2⟩
    case rf z i o n =>
      simp only [snap] at e ⊢
      cases hr : h.row i with
      | none => simp [hr] at e
      | some cs =>
        simp only [hr] at e
        simp only [row_le hl hr]
        split at e
        · rename_i hle
          rw [if_pos hle]
          simp only [Option.map_eq_some_iff] at e ⊢
          obtain ⟨us, e1, e2⟩ := e
          exact ⟨us, ihm e1, e2⟩
        · cases e
    case pt i o =>
      simp only [snap] at e ⊢
      cases hr : h.row i with
      | none => simp [hr] at e
      | some cs =>
        simp only [hr] at e
        simp only [row_le hl hr]
        simp only [Option.map_eq_some_iff] at e ⊢
        obtain ⟨us, e1, e2⟩ := e
        exact ⟨us, ihm e1, e2⟩
    case fn f fs cs =>
      simp only [snap] at e ⊢
      split at e
      · rename_i us ws e1 e2
        rw [ihm e1, ihm e2]
        exact e
      · cases e
    case ifc t v =>
      simp only [snap, Option.map_eq_some_iff] at e ⊢
      obtain ⟨u', e1, e2⟩ := e
      exact ⟨u', snap_le hl d _ _ e1, e2⟩
    all_goals exact e

omit [LoopSpec] in
theorem snap_one : ∀ (d : Nat) (v u : PV), snap h d v = some u → v.one = true → u.one = true
  | 0, v, _, e, _ => by
    cases v <;> simp only [snap] at e <;> first | (cases e; rfl) | (split at e <;> first | (cases e; rfl) | cases e)
  | d + 1, v, u, e, h1 => by
    cases v <;> simp only [snap] at e <;> first
      | (cases h1; done)
      | (cases e; rfl)
      | (cases e; done)
      | (simp only [Option.map_eq_some_iff] at e; obtain ⟨us, _, rfl⟩ := e; rfl)
      | (split at e <;> first | (cases e; rfl) | (cases e; done) | (simp only [Option.map_eq_some_iff] at e; obtain ⟨us, _, rfl⟩ := e; rfl) | (split at e <;> first | (simp only [Option.map_eq_some_iff] at e; obtain ⟨us, _, rfl⟩ := e; rfl) | (cases e; done)))

/-- Immutable copies stand for the same values. -/
theorem snap_ok {Z : Nat → Prop} (hs : SR ρ I h w) : ∀ (d : Nat) (u : Value) (v v' : PV), snap h d v = some v' → (noImm h d v = true ∨ ∀ b, I b → Z b) → (own d v = false ∨ ∀ i b o, h.blk i ≠ none → ρ i = some (b, o) → Z b) → VR ρ I w u v →
    VR (fun _ => none) Z w u v'
  | 0, _, v, v', e, _, _, hv => by
    by_cases hb : ∃ b, v = .bool b
    · obtain ⟨b, rfl⟩ := hb
      simp only [snap] at e
      cases e; cases hv; exact .bool b
    · have h1 : v.one = true ∧ v' = .any := by
        cases v <;> simp only [snap] at e <;> first | (exact absurd ⟨_, rfl⟩ hb) | (split at e <;> first | (cases e; exact ⟨‹_›, rfl⟩) | cases e)
      rw [h1.2]
      exact .any (hv.anyOk h1.1 fun b q => hb ⟨b, q⟩)
  | d + 1, u, v, v', e, hI, hO, hv => by
    have ih := snap_ok (Z := Z) hs d
    have hone : ∀ {vs us : List PV}, allO (snap h d) vs = some us → (∀ x ∈ vs, x.one = true) → ∀ x ∈ us, x.one = true := by
      intro vs us e1 ho x hx
      obtain ⟨j, hj, rfl⟩ := List.mem_iff_getElem.1 hx
      obtain ⟨g1, g2⟩ := allO_spec _ _ e1
      exact snap_one d _ _ (g2 j (by omega) hj) (ho _ (List.getElem_mem _))
    cases v
    case sl n cs =>
      simp only [snap, Option.map_eq_some_iff] at e
      obtain ⟨us, e1, rfl⟩ := e
      obtain ⟨g1, g2⟩ := allO_spec _ _ e1
      cases hv with
      | sl xs hn hA hx ho =>
        by_cases hne : cs = []
        · subst hne
          have : us = [] := List.eq_nil_of_length_eq_zero (by simpa using g1)
          subst this
          exact .sl xs hn (fun q => absurd rfl q) (fun j hj => absurd hj (Nat.not_lt_zero _)) (fun x hx => by cases hx)
        · have hI' : ∀ b, I b → Z b := by
            rcases hI with q | q
            · simp only [noImm, List.isEmpty_iff] at q; exact absurd q hne
            · exact q
          refine .sl xs hn (fun _ => ?_) (fun j hj => ?_) (hone e1 ho)
          · obtain ⟨b, o, rfl, hb, hc⟩ := hA hne
            exact ⟨b, o, rfl, hI' b hb, fun j hj => hc j (by omega)⟩
          · exact ih _ _ _ (g2 j (by omega) hj) (.inr hI') (by
              rcases hO with q | q
              · left
                simp only [own, List.any_eq_false] at q
                have := q cs[j] (List.getElem_mem _)
                simpa using this
              · exact .inr q) (hx j (by omega))
    case emp =>
      simp only [snap] at e
      cases e
      cases hv
      exact .sl (fun _ => undef) (Nat.le_refl _) (fun q => absurd rfl q) (fun j hj => absurd hj (Nat.not_lt_zero _)) (fun x hx => by cases hx)
    case rf z i o n =>
      have hO' : ∀ i b o, h.blk i ≠ none → ρ i = some (b, o) → Z b := by
        rcases hO with q | q
        · cases q
        · exact q
      simp only [snap] at e
      cases hr : h.row i with
      | none => simp [hr] at e
      | some cs =>
        simp only [hr] at e
        split at e
        · rename_i hle
          simp only [Option.map_eq_some_iff] at e
          obtain ⟨us, e1, rfl⟩ := e
          obtain ⟨g1, g2⟩ := allO_spec _ _ e1
          have hlen : us.length = n * z := by rw [g1]; simp; omega
          cases hv with
          | rf0 =>
            have : us = [] := List.eq_nil_of_length_eq_zero (by omega)
            subst this
            exact .sl (fun _ => undef) (Nat.le_refl _) (fun q => absurd rfl q) (fun j hj => absurd hj (Nat.not_lt_zero _)) (fun x hx => by cases hx)
          | rf hρ hn hw hc =>
            rename_i b o' c C T f
            obtain ⟨C2, T2, k1, k2, k3, k4⟩ := own_row hs (row_blk hr) hρ
            refine .sl (fun j => C2.getD (o' + (o + j)) undef) hn (fun _ => ⟨b, o' + o, rfl, hO' i b o' (by rw [row_blk hr]; simp) hρ, fun j hj => ?_⟩) (fun j hj => ?_) (hone e1 fun x hx => k4 x (List.mem_of_mem_drop (List.mem_of_mem_take hx)))
            · simp only [World.cell?, k1]
              simp [Array.getD, Nat.add_assoc, show o' + (o + j) < C2.size by omega]
            · have hj2 : j < ((cs.drop o).take (n * z)).length := by omega
              have hvj := k3 (o + j) (by omega)
              have e3 : ((cs.drop o).take (n * z))[j] = cs[o + j]'(by omega) := by rw [List.getElem_take, List.getElem_drop]
              have e4 := g2 j hj2 hj
              refine ih _ _ _ e4 ?_ ?_ (by rw [e3]; exact hvj)
              · rcases hI with q | q
                · left
                  simp only [noImm, hr, List.all_eq_true] at q
                  exact q _ (List.getElem_mem _)
                · exact .inr q
              · exact .inr hO'
        · cases e
    case pt i o =>
      have hO' : ∀ i b o, h.blk i ≠ none → ρ i = some (b, o) → Z b := by
        rcases hO with q | q
        · cases q
        · exact q
      simp only [snap] at e
      cases hr : h.row i with
      | none => simp [hr] at e
      | some cs =>
        simp only [hr, Option.map_eq_some_iff] at e
        obtain ⟨us, e1, rfl⟩ := e
        obtain ⟨g1, g2⟩ := allO_spec _ _ e1
        cases hv with
        | pt hρ =>
          rename_i b o'
          obtain ⟨C2, T2, k1, k2, k3, k4⟩ := own_row hs (row_blk hr) hρ
          simp only [List.length_drop] at g1
          refine .pi (fun j => C2.getD (o' + (o + j)) undef) (hO' i b o' (by rw [row_blk hr]; simp) hρ) (fun j hj => ?_) (fun j hj => ?_) (hone e1 fun x hx => k4 x (List.mem_of_mem_drop hx))
          · simp only [World.cell?, k1]
            simp [Array.getD, Nat.add_assoc, show o' + (o + j) < C2.size by omega]
          · have hvj := k3 (o + j) (by omega)
            have hj2 : j < (cs.drop o).length := by simp; omega
            have e3 : (cs.drop o)[j] = cs[o + j]'(by omega) := by rw [List.getElem_drop]
            refine ih _ _ _ (g2 j hj2 hj) ?_ (.inr hO') (by rw [e3]; exact hvj)
            rcases hI with q | q
            · left
              simp only [noImm, hr, List.all_eq_true] at q
              exact q _ (List.getElem_mem _)
            · exact .inr q
    case pi cs =>
      simp only [snap, Option.map_eq_some_iff] at e
      obtain ⟨us, e1, rfl⟩ := e
      obtain ⟨g1, g2⟩ := allO_spec _ _ e1
      have hI' : ∀ b, I b → Z b := by
        rcases hI with q | q
        · simp [noImm] at q
        · exact q
      cases hv with
      | pi xs hb hc hx ho =>
        refine .pi xs (hI' _ hb) (fun j hj => hc j (by omega)) (fun j hj => ?_) (hone e1 ho)
        exact ih _ _ _ (g2 j (by omega) hj) (.inr hI') (by
          rcases hO with q | q
          · left
            simp only [own, List.any_eq_false] at q
            have := q cs[j] (List.getElem_mem _)
            simpa using this
          · exact .inr q) (hx j (by omega))
    case fn f fs cs =>
      simp only [snap] at e
      split at e
      · rename_i us ws e1 e2
        cases e
        obtain ⟨g1, g2⟩ := allO_spec _ _ e1
        obtain ⟨g3, g4⟩ := allO_spec _ _ e2
        cases hv with
        | fn q1 q2 q3 q4 =>
          refine .fn (by omega) (by omega) (fun j hj => ih _ _ _ (g2 j (by omega) hj) ?_ ?_ (q3 j (by omega))) (fun j hj => ih _ _ _ (g4 j (by omega) hj) ?_ ?_ (q4 j (by omega)))
          · rcases hI with q | q
            · left
              simp only [noImm, Bool.and_eq_true, List.all_eq_true] at q
              exact q.1 _ (List.getElem_mem _)
            · exact .inr q
          · rcases hO with q | q
            · left
              simp only [own, Bool.or_eq_false_iff, List.any_eq_false] at q
              have := q.1 _ (List.getElem_mem (h := (by omega : j < fs.length)))
              simpa using this
            · exact .inr q
          · rcases hI with q | q
            · left
              simp only [noImm, Bool.and_eq_true, List.all_eq_true] at q
              exact q.2 _ (List.getElem_mem _)
            · exact .inr q
          · rcases hO with q | q
            · left
              simp only [own, Bool.or_eq_false_iff, List.any_eq_false] at q
              have := q.2 _ (List.getElem_mem (h := (by omega : j < cs.length)))
              simpa using this
            · exact .inr q
      · cases e
    case agg cs =>
      simp only [snap, Option.map_eq_some_iff] at e
      obtain ⟨us, e1, rfl⟩ := e
      obtain ⟨g1, g2⟩ := allO_spec _ _ e1
      cases hv with
      | agg q1 q2 ho =>
        refine .agg (by omega) (fun j hj => ih _ _ _ (g2 j (by omega) hj) ?_ ?_ (q2 j (by omega))) (hone e1 ho)
        · rcases hI with q | q
          · left
            simp only [noImm, List.all_eq_true] at q
            exact q _ (List.getElem_mem _)
          · exact .inr q
        · rcases hO with q | q
          · left
            simp only [own, List.any_eq_false] at q
            have := q cs[j] (List.getElem_mem _)
            simpa using this
          · exact .inr q
    case tup cs =>
      simp only [snap, Option.map_eq_some_iff] at e
      obtain ⟨us, e1, rfl⟩ := e
      obtain ⟨g1, g2⟩ := allO_spec _ _ e1
      cases hv with
      | tup q1 q2 =>
        refine .tup (by omega) (fun j hj => ih _ _ _ (g2 j (by omega) hj) ?_ ?_ (q2 j (by omega)))
        · rcases hI with q | q
          · left
            simp only [noImm, List.all_eq_true] at q
            exact q _ (List.getElem_mem _)
          · exact .inr q
        · rcases hO with q | q
          · left
            simp only [own, List.any_eq_false] at q
            have := q cs[j] (List.getElem_mem _)
            simpa using this
          · exact .inr q
    case mp i => simp only [snap] at e; cases e; exact .any (hv.anyOk rfl fun b q => by cases q)
    case yl i => simp only [snap] at e; cases e; exact .any (hv.anyOk rfl fun b q => by cases q)
    case any => simp only [snap] at e; cases e; exact .any (hv.anyOk rfl fun b q => by cases q)
    case dfr v => simp [snap] at e
    case ifc t v =>
      simp only [snap, Option.map_eq_some_iff] at e
      obtain ⟨u', e1, rfl⟩ := e
      cases hv with
      | ifc hv =>
        refine .ifc (ih _ _ _ e1 ?_ ?_ hv)
        · rcases hI with q | q
          · exact .inl (by simpa only [noImm] using q)
          · exact .inr q
        · rcases hO with q | q
          · exact .inl (by simpa only [own] using q)
          · exact .inr q
    all_goals
      simp only [snap] at e
      cases e
      cases hv
      constructor

omit [LoopSpec] in
theorem evSeqWf {call : Nat → List PV → AH → Option (PV × AH)} (hc : WfOk call) : ∀ (ops : List COper) (s s' : Fr) (h h' : AH), WFH h → evOps call ops s h = some (s', h') → WFH h'
  | [], s, s', h, h', hw, e => by cases e; exact hw
  | o :: r, s, s', h, h', hw, e => by
    rw [evOps_step] at e
    cases h1 : evStep call o s h with
    | none => simp [h1] at e
    | some p =>
      obtain ⟨s1, hh1⟩ := p
      simp only [h1] at e
      exact evSeqWf hc r s1 s' hh1 h' (evStep_wf hc hw h1) e

omit [LoopSpec] in
theorem WFH.set' {h : AH} (hw : WFH h) {i : Nat} {B : Blk} (hi : h.blk i = some B) (B' : Blk) : WFH (h.set i B') := by
  intro k hk
  rw [AH.set_blk]
  by_cases e : k = i
  · subst e; rw [hw k hk] at hi; cases hi
  · rw [if_neg e]; exact hw k hk
omit [LoopSpec] in
theorem WFH.del' {h : AH} (hw : WFH h) (i : Nat) : WFH (h.del i) := by
  intro k hk
  rw [AH.del_blk]
  by_cases e : k = i
  · rw [if_pos e]
  · rw [if_neg e]; exact hw k hk

omit [LoopSpec] in
theorem yldW_inv {run : CCode → Fr → AH → Option (EX × Fr × AH)} {i : Nat} {as : List PV} {r : PV} (e : yldW run i as h = some (r, h')) :
    h.lo ≤ i ∧ ∃ L s1 h1 L1 ex s2 h2 L2, h.blk i = some (.loop .ready L) ∧ as.length = L.ps.length ∧ run L.asg (putsL L.s L.ps as) h = some (.nrm, s1, h1) ∧ h1.blk i = some (.loop .ready L1) ∧
      run L.body s1 (h1.set i (.loop .busy L)) = some (ex, s2, h2) ∧ h2.blk i = some (.loop .busy L2) ∧ ((ex = .nrm ∧ r = .bool true ∧ h' = h2.set i (.loop .ready L)) ∨ (ex ≠ .nrm ∧ r = .bool false ∧ h' = h2.set i (.loop (.done ex) L))) := by
  unfold yldW at e
  split at e
  · cases e
  rename_i hlo
  split at e
  case h_2 => cases e
  rename_i L hb
  split at e
  case isFalse => cases e
  rename_i hl
  split at e
  case h_2 => cases e
  rename_i s1 h1 hr1
  split at e
  case h_2 => cases e
  rename_i L1 hb1
  split at e
  case h_2 => cases e
  rename_i ex s2 h2 hr2
  split at e
  case h_2 => cases e
  rename_i L2 hb2
  refine ⟨by omega, L, s1, h1, L1, ex, s2, h2, L2, hb, hl, hr1, hb1, hr2, hb2, ?_⟩
  cases ex with
  | nrm => cases e; exact .inl ⟨rfl, rfl, rfl⟩
  | ret => cases e; exact .inr ⟨by simp, rfl, rfl⟩
  | exit id => cases e; exact .inr ⟨by simp, rfl, rfl⟩

omit [LoopSpec] in
theorem yldW_wf {run : CCode → Fr → AH → Option (EX × Fr × AH)} (hr : ∀ (c : CCode) (s : Fr) (h : AH) (e : EX) (s' : Fr) (h' : AH), WFH h → run c s h = some (e, s', h') → WFH h') {i : Nat} {as : List PV} {r : PV} (hw : WFH h)
    (e : yldW run i as h = some (r, h')) : WFH h' := by
  obtain ⟨hlo, L, s1, h1, L1, ex, s2, h2, L2, hb, hl, hr1, hb1, hr2, hb2, q⟩ := yldW_inv e
  have w1 := hr _ _ _ _ _ _ hw hr1
  have w2 := hr _ _ _ _ _ _ (w1.set' hb1 _) hr2
  rcases q with ⟨_, _, rfl⟩ | ⟨_, _, rfl⟩ <;> exact w2.set' hb2 _

/-- Calls leave no block beyond the count; the evaluator neither. -/
theorem evC_wf (ht : TOk P pu T) : ∀ (n : Nat), (∀ (c : CCode) (s : Fr) (h : AH) (e : EX) (s' : Fr) (h' : AH), WFH h → evC T n c s h = some (e, s', h') → WFH h') ∧ WfOk (callW T (evC T n)) := by
  intro n
  induction n with
  | zero =>
    refine ⟨fun c s h e s' h' _ ev => (by cases ev), ?_⟩
    intro f as h r h' hw e
    simp only [callW] at e
    split at e
    · rename_i p g hg
      exact (ht.prim f p g hg).1.wf as h r h' hw e
    · split at e
      · split at e
        · simp only [Option.map_eq_some_iff] at e
          obtain ⟨x, _, e2⟩ := e
          cases e2
          exact hw
        · cases e
      · split at e <;> (simp only [evC] at e; cases e)
    · split at e
      · exact yldW_wf (fun c s h e s' h' _ ev => by cases ev) hw e
      · cases e
  | succ n ih =>
    have hcode : ∀ (c : CCode) (s : Fr) (h : AH) (e : EX) (s' : Fr) (h' : AH), WFH h → evC T (n + 1) c s h = some (e, s', h') → WFH h' := by
      intro c s h e s' h' hw ev
      cases c with
      | skip => cases ev; exact hw
      | bad => cases ev
      | exit id => cases ev; exact hw
      | ret => cases ev; exact hw
      | reg ops =>
        simp only [evC] at ev
        split at ev
        · rename_i s1 h1 hev; cases ev; exact evSeqWf ih.2 _ _ _ _ _ hw hev
        · cases ev
      | seq x y =>
        simp only [evC] at ev
        cases h1 : evC T n x s h with
        | none => simp [h1] at ev
        | some p =>
          obtain ⟨e1, s1, hh1⟩ := p
          have w1 := ih.1 _ _ _ _ _ _ hw h1
          rw [h1] at ev
          cases e1 with
          | nrm => exact ih.1 _ _ _ _ _ _ w1 ev
          | exit i => cases ev; exact w1
          | ret => cases ev; exact w1
      | cond c x y =>
        simp only [evC] at ev
        split at ev
        · exact ih.1 _ _ _ _ _ _ hw ev
        · exact ih.1 _ _ _ _ _ _ hw ev
        · cases ev
      | block id x =>
        simp only [evC] at ev
        cases h1 : evC T n x s h with
        | none => simp [h1] at ev
        | some p =>
          obtain ⟨e1, s1, hh1⟩ := p
          have w1 := ih.1 _ _ _ _ _ _ hw h1
          rw [h1] at ev
          cases e1 <;> (cases ev; exact w1)
      | loop x =>
        simp only [evC] at ev
        cases h1 : evC T n x s h with
        | none => simp [h1] at ev
        | some p =>
          obtain ⟨e1, s1, hh1⟩ := p
          have w1 := ih.1 _ _ _ _ _ _ hw h1
          rw [h1] at ev
          cases e1 with
          | nrm => exact ih.1 _ _ _ _ _ _ w1 ev
          | exit i => cases ev; exact w1
          | ret => cases ev; exact w1
      | rangef x ps ca cb =>
        simp only [evC] at ev
        split at ev
        case h_2 => cases ev
        split at ev
        case isFalse => cases ev
        split at ev
        case h_2 => cases ev
        rename_i hcall
        have w1 := ih.2 _ _ _ _ _ (hw.push _) hcall
        split at ev
        · cases ev; exact w1.del' _
        · cases ev; exact w1.del' _
        · cases ev
    refine ⟨hcode, ?_⟩
    intro f as h r h' hw e
    simp only [callW] at e
    split at e
    · rename_i p g hg
      exact (ht.prim f p g hg).1.wf as h r h' hw e
    · rename_i c hc
      split at e
      · split at e
        · simp only [Option.map_eq_some_iff] at e
          obtain ⟨x, _, e2⟩ := e
          cases e2
          exact hw
        · cases e
      · split at e
        · split at e
          · rename_i s1 h1 hev
            simp only [Option.map_eq_some_iff] at e
            obtain ⟨r0, _, e2⟩ := e
            cases e2
            exact show WFH (h.unbar h1) from hcode _ _ h.bar _ _ h1 hw hev
          · rename_i s1 h1 hev
            simp only [Option.map_eq_some_iff] at e
            obtain ⟨r0, _, e2⟩ := e
            cases e2
            exact show WFH (h.unbar h1) from hcode _ _ h.bar _ _ h1 hw hev
          · cases e
        split at e
        · rename_i s1 h1 hev
          simp only [Option.map_eq_some_iff] at e
          obtain ⟨r0, _, e2⟩ := e
          cases e2
          exact hcode _ _ _ _ _ _ hw hev
        · rename_i s1 h1 hev
          simp only [Option.map_eq_some_iff] at e
          obtain ⟨r0, _, e2⟩ := e
          cases e2
          exact hcode _ _ _ _ _ _ hw hev
        · cases e
    · split at e
      · exact yldW_wf hcode hw e
      · cases e

def resFn (tmps : Array Value) : ResultVar → Sem Value
  | .tmp t => pure (tmps.getD t undef)
  | .cell x t => do loadVar t (← asAddr (tmps.getD x undef))

omit [LoopSpec] in
theorem results_eq (fn : Func) (tmps : Array Value) : results fn tmps = (do let vs ← fn.results.mapM (resFn tmps); pure (if h : vs.size = 1 then vs[0] else .tuple vs)) := by
  unfold results
  have : (fun x => match x with
    | .tmp t => pure (tmps.getD t undef)
    | .cell a t => do loadVar t (← asAddr (tmps.getD a undef)) : ResultVar → Sem Value) = resFn tmps := by
    funext x
    cases x <;> rfl
  exact congrArg (fun f => (do let vs ← fn.results.mapM f; pure (if h : vs.size = 1 then vs[0] else .tuple vs) : Sem Value)) this

theorem resAll_ok {fs : List ResultVar} : ∀ {rs : List CRes} {vs : List PV}, resTmps P fs = some rs → resAll h s rs = some vs → FR Bo ρ I w nt a s → SR ρ I h w →
    ∃ us : List Value, (fs.mapM (resFn a.tmps)).run P w = .ok us w ∧ us.length = vs.length ∧ ∀ j (hj : j < vs.length), VR ρ I w (us.getD j undef) vs[j] := by
  induction fs with
  | nil =>
    intro rs vs e1 e2 hf hs
    cases e1
    cases e2
    exact ⟨[], by simp, rfl, fun j hj => absurd hj (Nat.not_lt_zero _)⟩
  | cons f fs ih =>
    intro rs vs e1 e2 hf hs
    have fin : ∀ {r : CRes} {rs' : List CRes} {x : Value}, resTmps P fs = some rs' → resAll h s (r :: rs') = some vs →
        (∀ v, resAt h s r = some v → ∃ x, (resFn a.tmps f).run P w = .ok x w ∧ VR ρ I w x v) →
        ∃ us : List Value, ((f :: fs).mapM (resFn a.tmps)).run P w = .ok us w ∧ us.length = vs.length ∧ ∀ j (hj : j < vs.length), VR ρ I w (us.getD j undef) vs[j] := by
      intro r rs' x h1 h2 h3
      simp only [resAll] at h2
      split at h2
      · rename_i v vs' h4 h5
        cases h2
        obtain ⟨x, k1, k2⟩ := h3 v h4
        obtain ⟨us, g1, g2, g3⟩ := ih h1 h5 hf hs
        refine ⟨x :: us, ?_, by simp [g2], fun j hj => ?_⟩
        · rw [List.mapM_cons, Sem.run_bind, k1, Result.andThen_ok, Sem.run_bind, g1, Result.andThen_ok]
          rfl
        · cases j with
          | zero => exact k2
          | succ j => exact g3 j (by simpa using hj)
      · cases h2
    cases f with
    | tmp t =>
      simp only [resTmps, Option.map_eq_some_iff] at e1
      obtain ⟨rs', h1, rfl⟩ := e1
      refine fin (x := undef) h1 e2 fun v hv => ?_
      cases hv
      exact ⟨_, rfl, hf.slot t⟩
    | cell y t =>
      simp only [resTmps] at e1
      split at e1
      · rename_i g n rest hg hn hr
        cases e1
        refine fin (x := undef) hr e2 fun v hv => ?_
        have hl : (if g then (rds h (s y) n).map .agg else rd1 h (s y)) = some v := by
          cases g with
          | true => exact hv
          | false => exact hv
        obtain ⟨x, k1, k2⟩ := load_ok (P := P) hg hn hs (hf.slot y) hl
        refine ⟨x, ?_, k2⟩
        have hp : ∃ ad, a.tmps.getD y undef = .pointer (some ad) := by
          have hv' := hf.slot y
          cases g with
          | true =>
            simp only [resAt, Option.map_eq_some_iff] at hv
            obtain ⟨ds, h1, _⟩ := hv
            obtain ⟨b, o, _, h2, _⟩ := ptr_cells hs hv' h1
            exact ⟨_, h2⟩
          | false =>
            simp only [resAt] at hv
            obtain ⟨b, o, _, h2, _⟩ := ptr_cell hs hv' hv
            exact ⟨_, h2⟩
        obtain ⟨ad, hp⟩ := hp
        show (do loadVar t (← asAddr (a.tmps.getD y Go.undef)) : Sem Value).run P w = .ok x w
        rw [hp] at k1 ⊢
        simp only [Instr.loadAt, Instr.sureAddr, Sem.run_bind, Sem.run_pure, Result.andThen_ok] at k1
        simp only [asAddr, Sem.run_bind, Sem.run_pure, Result.andThen_ok]
        exact k1
      · cases e1

theorem results_ok {fn : Func} {rs : List CRes} {r : PV} (h1 : resTmps P fn.results.toList = some rs) (h2 : resOf rs s h = some r) (hf : FR Bo ρ I w nt a s) (hs : SR ρ I h w) :
    ∃ u, (results fn a.tmps).run P w = .ok u w ∧ VR ρ I w u r := by
  unfold resOf at h2
  have key : ∀ vs, resAll h s rs = some vs → ∃ us : Array Value, us.size = vs.length ∧ (∀ j (hj : j < vs.length), VR ρ I w (us.getD j undef) vs[j]) ∧
      (results fn a.tmps).run P w = .ok (if h : us.size = 1 then us[0] else .tuple us) w := by
    intro vs hvs
    obtain ⟨us, g1, g2, g3⟩ := resAll_ok (P := P) h1 hvs hf hs
    refine ⟨us.toArray, by simpa using g2, fun j hj => by have := g3 j hj; simpa [Array.getD_eq_getD_getElem?] using this, ?_⟩
    rw [results_eq, Array.mapM_eq_mapM_toList]
    simp only [Sem.run_bind, Sem.run_map]
    have : (fn.results.toList.mapM (resFn a.tmps)).run P w = .ok us w := g1
    rw [this]
    rfl
  split at h2
  · rename_i v hv
    cases h2
    obtain ⟨us, k1, k2, k3⟩ := key _ hv
    have k1' : us.size = 1 := k1
    refine ⟨_, k3, ?_⟩
    rw [dif_pos k1']
    have := k2 0 (by simp)
    simpa [Array.getD, k1'] using this
  · rename_i vs hne hv
    cases h2
    obtain ⟨us, k1, k2, k3⟩ := key _ hv
    have k1' : us.size ≠ 1 := by
      rw [k1]
      intro q
      obtain ⟨x, rfl⟩ := List.length_eq_one_iff.1 q
      exact hne x rfl
    refine ⟨_, k3, ?_⟩
    rw [dif_neg k1']
    exact .tup k1 k2
  · cases h2

omit [LoopSpec] in
theorem initFr_rel {nm : Bool} {us : Array Value} {as : List PV} {nt : Nat} (hv : VRL ρ I w us as) : FR (w.heap.size, [], nm) ρ I w nt { tmps := us ++ Array.replicate (nt - us.size) undef, defers := [] } (initFr as) := by
  obtain ⟨h1, h2⟩ := hv
  refine ⟨by simp; omega, ⟨[], rfl, .nil, Nat.le_refl _, fun _ => rfl, fun D hD => by cases hD⟩, fun t => ?_⟩
  unfold initFr
  by_cases q : t < as.length
  · have e1 : (us ++ Array.replicate (nt - us.size) undef).getD t undef = us.getD t undef := by
      simp only [Array.getD_eq_getD_getElem?, Array.getElem?_append, if_pos (show t < us.size by omega)]
    rw [e1]
    have e2 : as.getD t .undef = as[t] := by simp [List.getD, List.getElem?_eq_getElem q]
    rw [e2]
    exact h2 t q
  · have e1 : (us ++ Array.replicate (nt - us.size) undef).getD t undef = undef := by
      simp only [Array.getD_eq_getD_getElem?, Array.getElem?_append, if_neg (show ¬ t < us.size by omega), Array.getElem?_replicate]
      split <;> rfl
    rw [e1]
    have e2 : as.getD t .undef = .undef := by simp [List.getD, List.getElem?_eq_none (Nat.le_of_not_lt q)]
    rw [e2]
    exact VR.undef

omit [LoopSpec] in
theorem KL.rfl' (h : AH) : KL h h := ⟨rfl, Nat.le_refl _, fun _ _ _ => rfl⟩
omit [LoopSpec] in
theorem KL.trans {h h1 h2 : AH} (a : KL h h1) (b : KL h1 h2) : KL h h2 := by
  refine ⟨b.1.trans a.1, Nat.le_trans a.2.1 b.2.1, fun hl i hi => ?_⟩
  have h1l : h1.lo ≤ h1.nx := by rw [a.1]; exact Nat.le_trans hl a.2.1
  rw [b.2.2 h1l i (by rw [a.1]; exact hi), a.2.2 hl i hi]
omit [LoopSpec] in
theorem KL.push (h : AH) (B : Blk) : KL h (h.push B) :=
  ⟨rfl, Nat.le_succ _, fun hl i hi => by rw [AH.push_blk, if_neg (by omega)]⟩
omit [LoopSpec] in
theorem KL.set (h : AH) {j : Nat} (hj : h.lo ≤ j) (B : Blk) : KL h (h.set j B) :=
  ⟨rfl, Nat.le_refl _, fun hl i hi => by rw [AH.set_blk, if_neg (by omega)]⟩
omit [LoopSpec] in
theorem KL.del (h : AH) {j : Nat} (hj : h.lo ≤ j) : KL h (h.del j) :=
  ⟨rfl, Nat.le_refl _, fun hl i hi => by rw [AH.del_blk, if_neg (by omega)]⟩

def KlOk (call : Nat → List PV → AH → Option (PV × AH)) : Prop := ∀ f as h r h', call f as h = some (r, h') → KL h h'

omit [LoopSpec] in
theorem evOpB_kl {call : Nat → List PV → AH → Option (PV × AH)} {o : COp} (hc : KlOk call) (e : evOpB call o s h = some (v, h')) : KL h h' := by
  have hb := (evOpB_inv e).1
  replace e := (evOpB_inv e).2
  have wrk : ∀ {n : Nat} {p y : PV} {h2 : AH}, lowOk h p = true → wr h p y n = some h2 → KL h h2 := by
    intro n p y h2 hb h3
    cases p with
    | pt i o =>
      simp only [lowOk, decide_eq_true_eq] at hb
      simp only [wr] at h3
      cases hr : h.row i with
      | none => simp [hr] at h3
      | some cs =>
        simp only [hr] at h3
        cases y <;> simp only at h3 <;> first
          | cases h3; done
          | (split at h3 <;> first | (cases h3; exact KL.set h hb _) | (cases h3; done))
    | _ => simp [wr] at h3
  have apkL : ∀ {z b : Nat} {x v : PV} {r : Option (Nat × List PV)} {h2 : AH}, lowOk h x = true → evAppL h z b x r = some (v, h2) → KL h h2 := by
    intro z b x v r h2 hb e
    simp only [evAppL] at e
    split at e
    · split at e <;> first | (cases e; exact KL.rfl' _) | (cases e; done)
    · split at e
      · split at e
        · cases e; exact KL.push h _
        · cases e
      · simp only [lowOk, decide_eq_true_eq] at hb
        split at e
        · split at e
          · cases e; exact (KL.del h hb).trans (KL.push _ _)
          · cases e
        · cases e
      · cases e
    · cases e
  have apk : ∀ {z b : Nat} {x y v : PV} {h2 : AH}, lowOk h x = true → evApp h z b x y = some (v, h2) → KL h h2 := fun hb e => apkL hb e
  cases o
  case callS ls f as =>
    simp only [evOp] at e
    split at e
    · rename_i v1 h1 hcall
      split at e
      · cases e; exact hc f _ h v h' hcall
      · cases e
    · cases e
  case appT t g z b x y =>
    simp only [barOk, target] at hb
    obtain ⟨r, h0, e1, q | ⟨_, _, q⟩⟩ := appT_inv e
    · rw [q]; exact apkL hb e1
    · rw [q]; exact ⟨(apkL hb e1).1, (apkL hb e1).2.1, (apkL hb e1).2.2⟩
  case appz z b zs x y =>
    simp only [barOk, target] at hb
    obtain ⟨r, e1⟩ := appz_inv e
    exact apkL hb e1
  case boxT t x =>
    simp only [evOp] at e
    split at e
    · cases e; exact ⟨rfl, Nat.le_succ _, fun hl i hi => (KL.push h _).2.2 hl i hi⟩
    · cases e
  case storeS ts n a x =>
    simp only [barOk, target] at hb
    simp only [evOp] at e
    split at e
    · split at e
      · rename_i h2 h3; cases e; exact wrk hb h3
      · cases e
    · cases e
  case appS ts z b x y =>
    simp only [barOk, target] at hb
    simp only [evOp] at e
    split at e
    · exact apk hb e
    · cases e
  case mksliceR k z b zs l c =>
    simp only [evOp] at e
    split at e
    · split at e
      · rename_i hq; cases e; exact KL.set h hq.2.2.1 _
      · cases e
    · cases e
  case resv m => cases e; exact ⟨rfl, Nat.le_add_right _ _, fun _ _ _ => rfl⟩
  case store n a x =>
    simp only [barOk, target] at hb
    simp only [evOp] at e
    split at e
    · rename_i h2 h3
      cases e
      generalize a.val s = p at hb h3
      cases p with
      | pt i o =>
        simp only [lowOk, decide_eq_true_eq] at hb
        simp only [wr] at h3
        cases hr : h.row i with
        | none => simp [hr] at h3
        | some cs =>
          simp only [hr] at h3
          generalize x.val s = y at h3
          cases y <;> simp only at h3 <;> first
            | cases h3; done
            | (split at h3 <;> first | (cases h3; exact KL.set h hb _) | (cases h3; done))
      | _ => simp [wr] at h3
    · cases e
  case upd kd m k x =>
    simp only [barOk, target] at hb
    simp only [evOp, evUpd] at e
    split at e
    · rename_i i hm
      rw [hm] at hb
      simp only [lowOk, decide_eq_true_eq] at hb
      split at e
      · split at e
        · split at e <;> first | (cases e; exact KL.set h hb _) | (cases e; done)
        · cases e
      · cases e
    · cases e
  case del kd m k =>
    simp only [barOk, target] at hb
    simp only [evOp, evDel] at e
    split at e
    · split at e
      · cases e; exact KL.rfl' _
      · cases e
    · rename_i i hm
      rw [hm] at hb
      simp only [lowOk, decide_eq_true_eq] at hb
      split at e
      · split at e
        · split at e <;> first | (cases e; exact KL.set h hb _) | (cases e; exact KL.rfl' _) | (cases e; done)
        · cases e
      · cases e
    · cases e
  case clear z zs x =>
    simp only [barOk, target] at hb
    simp only [evOp, evClear] at e
    split at e
    · rename_i hm
      rw [hm] at hb
      simp only [lowOk, decide_eq_true_eq] at hb
      split at e
      · split at e
        · cases e; exact KL.set h hb _
        · cases e
      · cases e
    · cases e; exact KL.rfl' _
    · cases e
  case app z b x y =>
    simp only [barOk, target] at hb
    simp only [evOp, evApp, evAppL] at e
    split at e
    · split at e <;> first | (cases e; exact KL.rfl' _) | (cases e; done)
    · split at e
      · split at e
        · cases e; exact KL.push h _
        · cases e
      · rename_i hm
        rw [hm] at hb
        simp only [lowOk, decide_eq_true_eq] at hb
        split at e
        · split at e
          · cases e; exact (KL.del h hb).trans (KL.push _ _)
          · cases e
        · cases e
      · cases e
    · cases e
  case call f as => exact hc f _ h v h' e
  case callv f as =>
    simp only [evOp] at e
    split at e
    · split at e
      · exact hc _ _ h v h' e
      · cases e
    · exact hc _ _ h v h' e
    · cases e
  case callp g f as =>
    simp only [evOp] at e
    split at e
    · split at e
      · exact hc _ _ h v h' e
      · cases e
    · cases e
  all_goals
    simp only [evOp] at e
    first
      | (cases e; done)
      | (obtain ⟨_, rfl⟩ := keep_inv e; exact KL.rfl' _)
      | (cases e; first | exact KL.rfl' _ | exact KL.push h _)
      | (split at e <;> first | (cases e; first | exact KL.rfl' _ | exact KL.push h _) | (cases e; done) | (split at e <;> first | (cases e; first | exact KL.rfl' _ | exact KL.push h _) | (cases e; done)))

omit [LoopSpec] in
theorem evOps_kl {call : Nat → List PV → AH → Option (PV × AH)} (hc : KlOk call) : ∀ (ops : List COper) (s s' : Fr) (h h' : AH), evOps call ops s h = some (s', h') → KL h h'
  | [], s, s', h, h', e => by cases e; exact KL.rfl' _
  | o :: r, s, s', h, h', e => by
    rw [evOps_step] at e
    cases h1 : evStep call o s h with
    | none => simp [h1] at e
    | some p =>
      obtain ⟨s1, hh1⟩ := p
      simp only [h1] at e
      refine KL.trans ?_ (evOps_kl hc r s1 s' hh1 h' e)
      obtain ⟨v, _, q⟩ := evStep_inv h1
      rcases q with ⟨_, q⟩ | ⟨_, _, rfl⟩
      · exact evOpB_kl hc q
      · exact KL.rfl' _

theorem callW_kl (ht : TOk P pu T) {run : CCode → Fr → AH → Option (EX × Fr × AH)} (hr : ∀ c s h e s' h', run c s h = some (e, s', h') → KL h h') : KlOk (callW T run) := by
  intro f as h r h' e
  simp only [callW] at e
  split at e
  · rename_i p g hg
    exact (ht.prim f p g hg).1.kl as h r h' e
  · split at e
    · split at e
      · simp only [Option.map_eq_some_iff] at e
        obtain ⟨x, _, e2⟩ := e
        cases e2
        exact KL.rfl' _
      · cases e
    · split at e
      · have key : ∀ h1, KL h.bar h1 → KL h (h.unbar h1) := fun h1 k => ⟨rfl, k.2.1, fun hl i hi => k.2.2 (Nat.le_refl _) i (Nat.lt_of_lt_of_le hi hl)⟩
        split at e
        · rename_i s1 h1 hev
          simp only [Option.map_eq_some_iff] at e
          obtain ⟨r0, _, e2⟩ := e
          cases e2
          exact key _ (hr _ _ _ _ _ _ hev)
        · rename_i s1 h1 hev
          simp only [Option.map_eq_some_iff] at e
          obtain ⟨r0, _, e2⟩ := e
          cases e2
          exact key _ (hr _ _ _ _ _ _ hev)
        · cases e
      · split at e
        · rename_i s1 h1 hev
          simp only [Option.map_eq_some_iff] at e
          obtain ⟨r0, _, e2⟩ := e
          cases e2
          exact hr _ _ _ _ _ _ hev
        · rename_i s1 h1 hev
          simp only [Option.map_eq_some_iff] at e
          obtain ⟨r0, _, e2⟩ := e
          cases e2
          exact hr _ _ _ _ _ _ hev
        · cases e
  · split at e
    · obtain ⟨hlo, L, s1, h1, L1, ex, s2, h2, L2, hb, hl, hr1, hb1, hr2, hb2, q⟩ := yldW_inv e
      have k1 := hr _ _ _ _ _ _ hr1
      have k2 := k1.trans (KL.set h1 (by rw [k1.1]; exact hlo) (.loop .busy L))
      have k3 := k2.trans (hr _ _ _ _ _ _ hr2)
      rcases q with ⟨_, _, rfl⟩ | ⟨_, _, rfl⟩ <;> exact k3.trans (KL.set h2 (by rw [k3.1]; exact hlo) _)
    · cases e

theorem evC_kl (ht : TOk P pu T) : ∀ (n : Nat) (c : CCode) (s : Fr) (h : AH) (e : EX) (s' : Fr) (h' : AH), evC T n c s h = some (e, s', h') → KL h h' := by
  intro n
  induction n with
  | zero => intro c s h e s' h' ev; cases ev
  | succ n ih =>
    intro c s h e s' h' ev
    cases c with
    | skip => cases ev; exact KL.rfl' _
    | bad => cases ev
    | exit id => cases ev; exact KL.rfl' _
    | ret => cases ev; exact KL.rfl' _
    | reg ops =>
      simp only [evC] at ev
      split at ev
      · rename_i s1 h1 hev; cases ev; exact evOps_kl (callW_kl ht ih) _ _ _ _ _ hev
      · cases ev
    | seq x y =>
      simp only [evC] at ev
      cases h1 : evC T n x s h with
      | none => simp [h1] at ev
      | some p =>
        obtain ⟨e1, s1, hh1⟩ := p
        have w1 := ih _ _ _ _ _ _ h1
        rw [h1] at ev
        cases e1 with
        | nrm => exact w1.trans (ih _ _ _ _ _ _ ev)
        | exit i => cases ev; exact w1
        | ret => cases ev; exact w1
    | cond c x y =>
      simp only [evC] at ev
      split at ev
      · exact ih _ _ _ _ _ _ ev
      · exact ih _ _ _ _ _ _ ev
      · cases ev
    | block id x =>
      simp only [evC] at ev
      cases h1 : evC T n x s h with
      | none => simp [h1] at ev
      | some p =>
        obtain ⟨e1, s1, hh1⟩ := p
        have w1 := ih _ _ _ _ _ _ h1
        rw [h1] at ev
        cases e1 <;> (cases ev; exact w1)
    | loop x =>
      simp only [evC] at ev
      cases h1 : evC T n x s h with
      | none => simp [h1] at ev
      | some p =>
        obtain ⟨e1, s1, hh1⟩ := p
        have w1 := ih _ _ _ _ _ _ h1
        rw [h1] at ev
        cases e1 with
        | nrm => exact w1.trans (ih _ _ _ _ _ _ ev)
        | exit i => cases ev; exact w1
        | ret => cases ev; exact w1
    | rangef x ps ca cb =>
      simp only [evC] at ev
      split at ev
      case h_2 => cases ev
      split at ev
      case isFalse => cases ev
      split at ev
      case h_2 => cases ev
      rename_i h1 hcall
      have w1 := (KL.push h (.loop .ready ⟨ps, ca, cb, s⟩)).trans (callW_kl ht ih _ _ _ _ _ hcall)
      have key : KL h (h1.del h.nx) := ⟨w1.1, w1.2.1, fun hl i hi => by rw [AH.del_blk, if_neg (by omega)]; exact w1.2.2 hl i hi⟩
      split at ev
      · cases ev; exact key
      · cases ev; exact key
      · cases ev

theorem pureOk (ht : TOk P pu T) (n : Nat) : PureOk pu (callW T (evC T n)) := by
  refine ⟨?_, fun f as h r h' hf hw e => ?_⟩
  rotate_left
  · unfold callW at e
    split at e
    · rename_i p g hg
      exact (ht.prim f p g hg).2.2 hf as h r h' hw e
    · rename_i c hc
      obtain ⟨ow, hcomp⟩ := ht.code f c hc
      obtain ⟨_, _, _, _, _, _, _, _, hx⟩ := compFn_inv hcomp
      have hext : c.ext = true := by rw [hx]; exact hf
      split at e
      · split at e
        · simp only [Option.map_eq_some_iff] at e
          obtain ⟨x, _, e2⟩ := e
          cases e2
          exact fun i B q => q
        · cases e
      · have key : ∀ h1 : AH, KL h.bar h1 → h.le (h.unbar h1) := by
          intro h1 k i B q
          have hi : i < h.nx := by
            rcases Nat.lt_or_ge i h.nx with g | g
            · exact g
            · rw [hw i g] at q; cases q
          exact (k.2.2 (Nat.le_refl _) i hi).trans q
        split at e
        · rename_i s1 h1 hev
          simp only [Option.map_eq_some_iff] at e
          obtain ⟨r0, _, e2⟩ := e
          cases e2
          exact key _ (evC_kl ht _ _ _ _ _ _ _ hev)
        · rename_i s1 h1 hev
          simp only [Option.map_eq_some_iff] at e
          obtain ⟨r0, _, e2⟩ := e
          cases e2
          exact key _ (evC_kl ht _ _ _ _ _ _ _ hev)
        · cases e
    · split at e
      · rename_i hy
        have := (ht.lim (f + exb) (Nat.le_trans hy.1 (Nat.le_add_right _ _))).2
        rw [hf] at this; cases this
      · cases e
  intro f as h r h' hf e
  unfold callW at e ⊢
  split at e
  · rename_i p g hg
    obtain ⟨h1, h2, _⟩ := ht.prim f p g hg
    obtain ⟨k1, k2⟩ := h1.pure (h2 hf) as h r h' e
    exact ⟨k1, fun h3 hl => k2 h3 hl⟩
  · rename_i c hc
    obtain ⟨ow, hcomp⟩ := ht.code f c hc
    obtain ⟨_, _, _, _, _, _, _, hp, _⟩ := compFn_inv hcomp
    have hpure : c.pure = true := by rw [hp]; exact hf
    simp only [hpure, if_true] at e ⊢
    cases h1 : allO (snap h snapDepth) as with
    | none => simp [h1] at e
    | some as' =>
      have key : ∀ h3, h.le h3 → allO (snap h3 snapDepth) as = some as' := fun h3 hl => allO_mono (snap_le hl snapDepth) _ _ h1
      simp only [h1, Option.map_eq_some_iff] at e
      obtain ⟨x, e1, e2⟩ := e
      cases e2
      refine ⟨rfl, fun h3 hl => ?_⟩
      simp only [key h3 hl, e1, Option.map_some]
  · split at e
    · rename_i hy
      have := (ht.lim f hy.1).2
      rw [hf] at this; cases this
    · cases e

theorem own_lt (hs : SR ρ I h w) {i b o : Nat} (hl : h.blk i ≠ none) (e : ρ i = some (b, o)) : b < w.heap.size := by
  cases hb : h.blk i with
  | none => exact absurd hb hl
  | some B =>
    obtain ⟨b2, o2, g, hB⟩ := hs.live i B hb
    rw [e] at g
    cases g
    have : w.heap[b]? ≠ none := by
      cases B <;> (obtain ⟨_, _, g, _⟩ := hB; rw [g]; simp)
    rcases Nat.lt_or_ge b w.heap.size with q | q
    · exact q
    · exact absurd (Array.getElem?_eq_none q) this

/-- A function's end: its ranges' blocks are shut, its results are read. -/
theorem leaves_ok {fn : Func} {R : Ending → World → Prop} {rs : List CRes} {r : PV} {ρ0 : Nat → Option (Nat × Nat)} {I0 : Nat → Prop} {h0 : AH} {w0 : World} (hres : resTmps P fn.results.toList = some rs) (hro : resOf rs s h = some r)
    (hR : ∀ u w', St ρ0 I0 h0 w0 ρ I h w' → SR ρ I h w' → VR ρ I w' u r → R (.returned u) w') (hsz : nt ≤ a.tmps.size) :
    ∀ (Ds : List Nat) (w : World), St ρ0 I0 h0 w0 ρ I h w → SR ρ I h w → (∀ t, VR ρ I w (a.tmps.getD t undef) (s t)) → Ds.Nodup → (∀ D ∈ Ds, w0.heap.size ≤ D ∧ ¬ I D ∧ w.heap[D]? = some (.deferred (some []))) →
      LeavesInM (FW none) 0 P fn a.tmps R (Ds.map fun D => { target := .collected D, args := #[] }) .returning w
  | [], w, st, hs, hv, _, _ => by
    obtain ⟨u, k1, k2⟩ := results_ok (P := P) (Bo := (w.heap.size, a.defers, false)) hres hro ⟨hsz, ⟨[], rfl, .nil, Nat.le_refl _, fun _ => rfl, fun D hD => by cases hD⟩, hv⟩ hs
    exact ⟨u, k1, hR u w st hs k2⟩
  | D :: Ds, w, st, hs, hv, hn, hD => by
    obtain ⟨g1, g2, g3⟩ := hD D (by simp)
    obtain ⟨m1, m2⟩ := hs.shut (ds' := none) g3 g2
    obtain ⟨n1, n2⟩ := List.nodup_cons.1 hn
    refine ⟨by simp, .inl ⟨D, _, rfl, run_takeDeferred g3, leaves_ok hres hro hR hsz Ds _ (st.shut g1) m1 (fun t => m2 _ _ (hv t)) n2 fun D' hD' => ?_⟩⟩
    obtain ⟨q1, q2, q3⟩ := hD D' (by simp [hD'])
    exact ⟨q1, q2, (World.putObj_heap_other fun e => n1 (by rw [← e]; exact hD')).trans q3⟩

theorem leaves_FR {fn : Func} {R : Ending → World → Prop} {rs : List CRes} {r : PV} {ρ0 : Nat → Option (Nat × Nat)} {I0 : Nat → Prop} {h0 : AH} {w0 : World} (hres : resTmps P fn.results.toList = some rs) (hro : resOf rs s h = some r)
    (hR : ∀ u w', St ρ0 I0 h0 w0 ρ I h w' → SR ρ I h w' → VR ρ I w' u r → R (.returned u) w') (st : St ρ0 I0 h0 w0 ρ I h w) (hs : SR ρ I h w) (hf : FR (w0.heap.size, [], false) ρ I w nt a s) :
    LeavesInM (FW none) 0 P fn a.tmps R a.defers .returning w := by
  obtain ⟨Ds, e1, e2, e3, _, e4⟩ := hf.defers
  rw [e1, List.append_nil]
  exact leaves_ok hres hro hR hf.size Ds w st hs hf.slot e2 e4

/-- A round, out of the evaluation of its parts. -/
theorem round_ok (ht : TOk P pu T) (hgate : gate T = true) {n : Nat} (hok : ∀ m, m < n → CallOk P (callW T (evC T m)) ∧ PureOk pu (callW T (evC T m)) ∧ WfOk (callW T (evC T m))) {i : Nat} {as : List PV} {r : PV} (e : yldW (evC T n) i as h = some (r, h'))
    {us : Array Value} {b o : Nat} (hs : SR ρ I h w) (hv : VRL ρ I w us as) (hρ : ρ i = some (b, o)) : ∃ rec : Loop, w.heap[b]? = some (.loop rec) ∧ us.size = rec.params.size ∧
      ∀ r0, RoundIn (FW r0) 0 P b rec.fn ((rec.params.zip us).foldl (fun tmps (t, a) => tmps.setIfInBounds t a) rec.tmps) rec.assign rec.body w (Post ρ I h w r h') := by
  obtain ⟨hlo, L, s1, h1, L1, ex, s2, h2, L2, hb, hl, hr1, hb1, hr2, hb2, q⟩ := yldW_inv e
  obtain ⟨b', o', k1, rec, _, g1, g2, g3, g4, g5⟩ := hs.live i _ hb
  rw [hρ] at k1
  obtain ⟨rfl, rfl⟩ : b = b' ∧ o = o' := by simpa using k1
  obtain ⟨ow, nt, l1, l2, l3, l4, l5⟩ := (ht.loops hgate _ _ _ _ _ _ _).1 g4
  have hsz : us.size = rec.params.size := by rw [hv.1, hl, l2]; simp
  refine ⟨rec, g1, hsz, fun r0 => roundIn_of_wpIn FW_fn ?_⟩
  have hfold : (rec.params.zip us).foldl (fun tmps (t, a) => tmps.setIfInBounds t a) rec.tmps = ((rec.params.toList.zip us.toList).foldl (fun tmps (x : Nat × Value) => tmps.setIfInBounds x.1 x.2) rec.tmps) := by
    rw [← Array.foldl_toList, Array.toList_zip]
  rw [hfold]
  obtain ⟨p1, p2⟩ := puts_ok (ρ := ρ) (I := I) (w := w) (nt := nt) L.ps us.toList as rec.tmps L.s (by simpa using hv.1) hl.symm (fun j hj => by have := hv.2 j hj; rw [Array.getD_eq_getD_getElem?] at this; simpa [List.getD_eq_getElem?_getD] using this) l1 l3 g5
  rw [l2] at p1 p2
  have hf0 : FR (w.heap.size, [], false) ρ I w nt { tmps := (rec.params.toList.zip us.toList).foldl (fun tmps (x : Nat × Value) => tmps.setIfInBounds x.1 x.2) rec.tmps, defers := [] } (putsL L.s L.ps as) :=
    ⟨p1, ⟨[], rfl, .nil, Nat.le_refl _, fun _ => rfl, fun D hD => by cases hD⟩, by rw [l2]; exact p2⟩
  rw [l4] at hr1
  rw [l5] at hr2
  show Code.wpIn (FW (some b)) 0 P _ _ _ w
  refine code_sound ht (fun _ => rfl) n hok n (Nat.le_refl _) rec.assign ow nt _ _ _ _ _ hr1 (some b) _ w ρ I _ (fun l hl => by cases hl; exact ⟨rec, g1⟩) hf0 hs fun a1 w1 ρ1 I1 st1 hs1 hf1 => ?_
  obtain ⟨b', o', k1, rec1, _, g1', g2', g3', _, _⟩ := hs1.live i _ hb1
  rw [st1.ext _ _ hρ] at k1
  obtain ⟨rfl, rfl⟩ : b = b' ∧ o = o' := by simpa using k1
  obtain ⟨ls, lp, g1''⟩ := (st1.oth b).1 rec g1
  obtain rfl : rec1 = { rec with state := ls, pending := lp } := by rw [g1'] at g1''; simpa using g1''
  have hv1 : ∀ t, VR ρ1 I1 w1 (rec.tmps.getD t undef) (L.s t) := fun t => (g5 t).step hs st1
  obtain ⟨m1, m2⟩ := hs1.loopTo (st' := .busy) (L := L) hb1 (st1.ext _ _ hρ) g1' g4 hv1 _ rfl
  refine ⟨_, run_beginRound g1' g2', ?_⟩
  have hw2 : w1.putObj b (.loop { { rec with state := ls, pending := lp } with state := .busy }) = { w1 with heap := w1.heap.setIfInBounds b (.loop { { rec with state := ls, pending := lp } with state := LS.busy.st, pending := LS.busy.pend }) } := by
    have : lp = none := g3'
    subst this; rfl
  rw [hw2]
  generalize hww : ({ w1 with heap := w1.heap.setIfInBounds b (.loop { { rec with state := ls, pending := lp } with state := LS.busy.st, pending := LS.busy.pend }) } : World) = w2 at m1 m2 ⊢
  have st2 := st1.trans m2
  refine code_sound ht (fun _ => rfl) n hok n (Nat.le_refl _) rec.body ow nt _ _ _ _ _ hr2 (some b) _ w2 ρ1 I1 _ (RIn.step (fun l hl => by cases hl; exact ⟨rec, g1⟩) st2.oth) (hf1.step hs1 m2) m1 fun a3 w3 ρ3 I3 st3 hs3 hf3 => ?_
  have st4 := st2.trans st3
  obtain ⟨b', o', k1, rec3, _, f1, f2, f3, _, _⟩ := hs3.live i _ hb2
  rw [st4.ext _ _ hρ] at k1
  obtain ⟨rfl, rfl⟩ : b = b' ∧ o = o' := by simpa using k1
  obtain ⟨ls3, lp3, f1'⟩ := (st4.oth b).1 rec g1
  obtain rfl : rec3 = { rec with state := ls3, pending := lp3 } := by rw [f1] at f1'; simpa using f1'
  have hv3 : ∀ t, VR ρ3 I3 w3 (rec.tmps.getD t undef) (L.s t) := fun t => (g5 t).step hs st4
  have fin : ∀ (jump : Option Code) (st' : LS) (bv : Bool), bv = jump.isNone → st'.st = (if jump.isNone then .ready else .done) → st'.pend = jump → r = .bool bv → h' = h2.set i (.loop st' L) →
      ∃ v w', (Instr.endRound b jump).run P w3 = .ok v w' ∧ Post ρ I h w r h' (.returned v) w' := by
    intro jump st' bv hbv hst hpe hr hh
    subst hr hh
    obtain ⟨m1, m2⟩ := hs3.loopTo (st' := st') (L := L) hb2 (st4.ext _ _ hρ) f1 g4 hv3 _ rfl
    refine ⟨_, _, run_endRound jump f1, ρ3, I3, _, rfl, ?_, ?_, by rw [hbv]; exact .bool _⟩
    · have := st4.trans m2
      rw [hst, hpe] at this
      exact this
    · rw [hst, hpe] at m1
      exact m1
  rcases q with ⟨rfl, hr, hh⟩ | ⟨hne, hr, hh⟩
  · exact fin none .ready true rfl rfl rfl hr hh
  · cases ex with
    | nrm => exact absurd rfl hne
    | ret => exact fin (some .ret) (.done .ret) false rfl rfl rfl hr hh
    | exit id => exact fin (some (.exit id)) (.done (.exit id)) false rfl rfl rfl hr hh

/-- THE EVALUATOR IS SOUND: what it comes to, the machine's call comes to. -/
theorem callOk (ht : TOk P pu T) : ∀ n, CallOk P (callW T (evC T n)) := by
  intro n
  induction n using Nat.strongRecOn with
  | _ n ih =>
    have hokm : ∀ m, m < n → CallOk P (callW T (evC T m)) ∧ PureOk pu (callW T (evC T m)) ∧ WfOk (callW T (evC T m)) := fun m hm => ⟨ih m hm, pureOk ht m, (evC_wf ht m).2⟩
    refine ⟨fun f as h r h' hyb e => ?_, fun i as h r h' e ρ I w us b o hs hv hρ => ?_⟩
    rotate_left
    · unfold callW at e
      rw [(ht.lim (yb + i) (Nat.le_add_right _ _)).1] at e
      simp only at e
      split at e
      · rename_i hy
        rw [Nat.add_sub_cancel_left] at e
        exact round_ok ht hy.2 hokm e hs hv hρ
      · cases e
    unfold callW at e
    split at e
    · rename_i p g hg
      obtain ⟨h1, _⟩ := ht.prim f p g hg
      exact ⟨h1.callable, h1.calls as h r h' e⟩
    · rename_i c hc
      obtain ⟨ow, hcomp⟩ := ht.code f c hc
      obtain ⟨fn, code, hfn, hbody, hname, hres, hcb, hpu, hxu⟩ := compFn_inv hcomp
      refine ⟨⟨fn, hfn, hname, by rw [hbody]; rfl⟩, fun ρ I w us hs hv => ?_⟩
      have hsound := code_sound (P := P) (pu := pu) (T := T) (Bo := (w.heap.size, [], false)) ht (fun _ => rfl) n hokm n (Nat.le_refl _) code (ow f) fn.ntmps
      split at e
      · -- a pure call
        split at e
        · rename_i as' has
          simp only [Option.map_eq_some_iff] at e
          obtain ⟨r', e1, e2⟩ := e
          obtain ⟨rfl, rfl⟩ : r' = r ∧ h = h' := by simpa using e2
          -- what may be lent
          let I0 : Nat → Prop := if as.any (own snapDepth) then fun b => b < w.heap.size else I
          have hI0 : ∀ b, I b → I0 b := by
            intro b hb
            simp only [I0]
            split
            · exact hs.inI b hb
            · exact hb
          have hI0lt : ∀ b, I0 b → b < w.heap.size := by
            intro b hb
            simp only [I0] at hb
            split at hb
            · exact hb
            · exact hs.inI b hb
          have hs0 : SR (fun _ => none) I0 AH.zero w :=
            ⟨fun i B q => (by cases q), fun i j b o o' q => absurd rfl q, fun i b o q => absurd rfl q, fun i x q => (by cases q), hI0lt, fun i t q => (by cases q)⟩
          have hv0 : VRL (fun _ => none) I0 w us as' := by
            obtain ⟨g1, g2⟩ := allO_spec _ _ has
            refine ⟨by rw [hv.1, g1], fun j hj => ?_⟩
            have hj' : j < as.length := by omega
            refine snap_ok hs snapDepth _ _ _ (g2 j hj' hj) (.inr hI0) ?_ (hv.2 j hj')
            by_cases q : as.any (own snapDepth) = true
            · right
              intro i b o hl e
              simp only [I0, q, if_true]
              exact own_lt hs hl e
            · left
              simp only [Bool.not_eq_true, List.any_eq_false] at q
              have := q as[j] (List.getElem_mem _)
              simpa using this
          have fin : ∀ (e : EX) (s' : Fr) (hc' : AH), e = .nrm ∨ e = .ret → evC T n c.body (initFr as') AH.zero = some (e, s', hc') →
              (match resOf c.res s' hc' with
                | some r0 => if as.any (own snapDepth) && !noImm hc' snapDepth r0 then none else snap hc' snapDepth r0
                | none => none) = some r' → Calls P (rl f) us w (Post ρ I h w r' h) := by
            intro e s' hc' hee hev hr
            rw [hcb] at hev
            refine callsIn_FW.1 (callsIn_of_wp_marks (F := FW none) hfn hbody FW_fn (hsound _ _ e s' hc' hev none _ w _ I0 _ .none (initFr_rel hv0) hs0 fun a' w' ρ' I' st hs' hf' => ?_) rfl)
            cases hro : resOf c.res s' hc' with
            | none => simp [hro] at hr
            | some r0 =>
              simp only [hro] at hr
              have hR : ∀ u w', St (fun _ => none) I0 AH.zero w ρ' I' hc' w' → SR ρ' I' hc' w' → VR ρ' I' w' u r0 → Post ρ I h w r' h (.returned u) w' := by
                intro u w' st hs' k2
                have hkeep : ∀ b, b < w.heap.size → w'.heap[b]? = w.heap[b]? := fun b hb => st.keep b hb fun i o hl _ => hl rfl
                obtain ⟨g1, g2⟩ := hs.grow (I' := fun b => I b ∨ (w.heap.size ≤ b ∧ b < w'.heap.size)) st.os st.tape st.output st.size hkeep (fun b hb => .inl hb) (fun b hb => hb.imp id fun q => q.1) (fun b hb => by
                  rcases hb with q | q
                  · have := hs.inI b q; have := st.size; omega
                  · exact q.2)
                refine ⟨ρ, _, u, rfl, g2, g1, ?_⟩
                have hvr : VR (fun _ => none) (fun b => I b ∨ (w.heap.size ≤ b ∧ b < w'.heap.size)) w' u r' := by
                  split at hr
                  · cases hr
                  · rename_i hcond
                    refine snap_ok hs' snapDepth _ _ _ hr ?_ ?_ k2
                    · by_cases q : as.any (own snapDepth) = true
                      · left
                        simpa [q] using hcond
                      · right
                        intro b hb
                        rcases st.immNew b hb with q' | q'
                        · left
                          simp only [I0] at q'
                          rw [if_neg q] at q'
                          exact q'
                        · exact .inr ⟨q', hs'.inI b hb⟩
                    · right
                      intro i b o hl e
                      rcases st.own i b o hl e with q | ⟨j, o', q, _⟩
                      · exact .inr ⟨q, own_lt hs' hl e⟩
                      · exact absurd rfl q
                exact hvr.mono (fun i x q => by cases q) (fun b q => q) (fun b _ => rfl) (fun b C T f q => ⟨C, f, q, rfl⟩)
              have hL := leaves_FR (fn := fn) (P := P) hres hro hR st hs' hf'
              rcases hee with rfl | rfl <;> exact hL
          unfold pureRes at e1
          split at e1
          · rename_i s' hc' hev; exact fin .nrm s' hc' (.inl rfl) hev e1
          · rename_i s' hc' hev; exact fin .ret s' hc' (.inr rfl) hev e1
          · cases e1
        · cases e
      · -- in the caller's heap, which is only read
        split at e
        · have fin : ∀ (ex : EX) (s' : Fr) (h1 : AH), ex = .nrm ∨ ex = .ret → evC T n c.body (initFr as) h.bar = some (ex, s', h1) → (resOf c.res s' h1).map (fun r => (r, h.unbar h1)) = some (r, h') → Calls P (rl f) us w (Post ρ I h w r h') := by
            intro ex s' h1 hee hev hr
            simp only [Option.map_eq_some_iff] at hr
            obtain ⟨r0, hro, e2⟩ := hr
            obtain ⟨rfl, rfl⟩ : r0 = r ∧ h.unbar h1 = h' := by simpa using e2
            rw [hcb] at hev
            have hsb : SR ρ I h.bar w := ⟨hs.live, hs.inj, hs.apart, hs.nx, hs.inI, hs.typ⟩
            refine callsIn_FW.1 (callsIn_of_wp_marks (F := FW none) hfn hbody FW_fn (hsound _ _ ex s' h1 hev none _ w ρ I _ .none (initFr_rel hv) hsb fun a' w' ρ' I' st hs' hf' => ?_) rfl)
            have hR : ∀ u w', St ρ I h.bar w ρ' I' h1 w' → SR ρ' I' h1 w' → VR ρ' I' w' u r0 → Post ρ I h w r0 (h.unbar h1) (.returned u) w' := by
             intro u w' st hs' k2
             have st' : St ρ I h w ρ' I' (h.unbar h1) w' := ⟨st.ext, st.imm, st.immNew, st.os, st.tape, st.output, st.size, st.keep, st.row, st.oth, st.own, st.nxle, st.low⟩
             have hs2 : SR ρ' I' (h.unbar h1) w' := ⟨hs'.live, hs'.inj, hs'.apart, hs'.nx, hs'.inI, hs'.typ⟩
             exact ⟨ρ', I', u, rfl, st', hs2, k2⟩
            have hL := leaves_FR (fn := fn) (P := P) hres hro hR st hs' hf'
            rcases hee with rfl | rfl <;> exact hL
          split at e
          · rename_i s' h1 hev; exact fin .nrm s' h1 (.inl rfl) hev e
          · rename_i s' h1 hev; exact fin .ret s' h1 (.inr rfl) hev e
          · cases e
        -- in the caller's heap
        have fin : ∀ (ex : EX) (s' : Fr) (hc' : AH), ex = .nrm ∨ ex = .ret → evC T n c.body (initFr as) h = some (ex, s', hc') → (resOf c.res s' hc').map (fun r => (r, hc')) = some (r, h') → Calls P (rl f) us w (Post ρ I h w r h') := by
          intro ex s' hc' hee hev hr
          simp only [Option.map_eq_some_iff] at hr
          obtain ⟨r0, hro, e2⟩ := hr
          obtain ⟨rfl, rfl⟩ : r0 = r ∧ hc' = h' := by simpa using e2
          rw [hcb] at hev
          refine callsIn_FW.1 (callsIn_of_wp_marks (F := FW none) hfn hbody FW_fn (hsound _ _ ex s' hc' hev none _ w ρ I _ .none (initFr_rel hv) hs fun a' w' ρ' I' st hs' hf' => ?_) rfl)
          have hL := leaves_FR (fn := fn) (P := P) (R := Post ρ I h w r0 hc') hres hro (fun u w' st hs' k2 => ⟨ρ', I', u, rfl, st, hs', k2⟩) st hs' hf'
          rcases hee with rfl | rfl <;> exact hL
        split at e
        · rename_i s' hc' hev; exact fin .nrm s' hc' (.inl rfl) hev e
        · rename_i s' hc' hev; exact fin .ret s' hc' (.inr rfl) hev e
        · cases e
    · rw [if_neg (fun q => by omega)] at e; cases e
end
end Go.Ev

/- The evaluator without its fuel: rules that step through code, to be rewritten with, and a rule for loops. -/
set_option linter.unusedVariables false
set_option linter.unusedSimpArgs false
namespace Go.Ev
variable [LoopSpec]
section
variable {T : Nat → Option Fun}

omit [LoopSpec] in
theorem evOps_mono {call call' : Nat → List PV → AH → Option (PV × AH)} (hc : ∀ f as h r, call f as h = some r → call' f as h = some r) :
    ∀ (ops : List COper) (s : Fr) (h : AH) (r : Fr × AH), evOps call ops s h = some r → evOps call' ops s h = some r := by
  intro ops
  induction ops with
  | nil => intro s h r e; exact e
  | cons o os ih =>
    intro s h r e
    simp only [evOps] at e ⊢
    split at e
    · rename_i hw
      rw [if_pos hw]
      cases hob : evOpB call o.op s h with
      | none => simp [hob] at e
      | some p =>
        rw [hob] at e
        have : evOpB call' o.op s h = some p := by
          unfold evOpB at hob ⊢
          split at hob
          case isFalse => cases hob
          rename_i hbar
          rw [if_pos hbar]
          have ho := hob
          cases hop : o.op <;> simp only [hop, evOp] at ho ⊢ <;> first | exact ho | skip
          · exact hc _ _ _ _ ho
          · split at ho
            · split at ho
              · rename_i hv hlt; rw [if_pos hlt]; exact hc _ _ _ _ ho
              · cases ho
            · exact hc _ _ _ _ ho
            · cases ho
          · split at ho
            · split at ho
              · rename_i hv hlt; rw [if_pos hlt]; exact hc _ _ _ _ ho
              · cases ho
            · cases ho
          · split at ho
            · rename_i v1 h1 hcall
              rw [hc _ _ _ _ hcall]
              exact ho
            · cases ho
        rw [this]
        exact ih _ _ _ e
    · rename_i hw
      rw [if_neg hw]
      exact ih _ _ _ e

omit [LoopSpec] in
theorem yldW_mono {run run' : CCode → Fr → AH → Option (EX × Fr × AH)} (hr : ∀ c s h r, run c s h = some r → run' c s h = some r) {i : Nat} {as : List PV} {h : AH} {r : PV × AH} (e : yldW run i as h = some r) : yldW run' i as h = some r := by
  obtain ⟨r, h'⟩ := r
  obtain ⟨hlo, L, s1, h1, L1, ex, s2, h2, L2, hb, hl, hr1, hb1, hr2, hb2, q⟩ := yldW_inv e
  unfold yldW
  rw [if_neg (by omega), hb]
  simp only
  rw [if_pos hl, hr _ _ _ _ hr1]
  simp only
  rw [hb1]
  simp only
  rw [hr _ _ _ _ hr2]
  simp only
  rw [hb2]
  rcases q with ⟨rfl, rfl, rfl⟩ | ⟨hne, rfl, rfl⟩
  · rfl
  · cases ex with
    | nrm => exact absurd rfl hne
    | ret => rfl
    | exit id => rfl

omit [LoopSpec] in
theorem callW_mono {run run' : CCode → Fr → AH → Option (EX × Fr × AH)} (hr : ∀ c s h r, run c s h = some r → run' c s h = some r) :
    ∀ (f : Nat) (as : List PV) (h : AH) (r : PV × AH), callW T run f as h = some r → callW T run' f as h = some r := by
  intro f as h r e
  unfold callW at e ⊢
  split at e
  · exact e
  · split at e
    · rename_i c hc hp
      rw [if_pos hp]
      split at e
      · rename_i as' has
        cases hb : run c.body (initFr as') AH.zero with
        | none => simp [hb, pureRes] at e
        | some p => rw [hr _ _ _ _ hb]; rw [hb] at e; exact e
      · cases e
    · rename_i c hc hp
      rw [if_neg hp]
      split at e
      · rename_i hx
        rw [if_pos hx]
        cases hb : run c.body (initFr as) h.bar with
        | none => simp [hb] at e
        | some p => rw [hr _ _ _ _ hb]; rw [hb] at e; exact e
      rename_i hx
      rw [if_neg hx]
      cases hb : run c.body (initFr as) h with
      | none => simp [hb] at e
      | some p => rw [hr _ _ _ _ hb]; rw [hb] at e; exact e
  · split at e
    · rename_i hy
      rw [if_pos hy]
      exact yldW_mono hr e
    · cases e

omit [LoopSpec] in
theorem evC_step : ∀ (n : Nat) (c : CCode) (s : Fr) (h : AH) (r : EX × Fr × AH), evC T n c s h = some r → evC T (n + 1) c s h = some r := by
  intro n
  induction n with
  | zero => intro c s h r e; cases e
  | succ n ih =>
    intro c s h r e
    unfold evC at e ⊢
    cases c with
    | skip => exact e
    | bad => exact e
    | reg ops =>
      simp only at e ⊢
      cases hb : evOps (callW T (evC T n)) ops s h with
      | none => simp [hb] at e
      | some p => rw [evOps_mono (callW_mono ih) _ _ _ _ hb]; rw [hb] at e; exact e
    | seq a b =>
      simp only at e ⊢
      cases hb : evC T n a s h with
      | none => simp [hb] at e
      | some p =>
        rw [ih _ _ _ _ hb]
        rw [hb] at e
        obtain ⟨ex, s', h'⟩ := p
        cases ex with
        | nrm => exact ih _ _ _ _ e
        | exit i => exact e
        | ret => exact e
    | cond c a b =>
      simp only at e ⊢
      split at e
      · rename_i hv; exact ih _ _ _ _ e
      · rename_i hv; exact ih _ _ _ _ e
      · cases e
    | block id c =>
      simp only at e ⊢
      cases hb : evC T n c s h with
      | none => simp [hb] at e
      | some p => rw [ih _ _ _ _ hb]; rw [hb] at e; exact e
    | loop c =>
      simp only at e ⊢
      cases hb : evC T n c s h with
      | none => simp [hb] at e
      | some p =>
        rw [ih _ _ _ _ hb]
        rw [hb] at e
        obtain ⟨ex, s', h'⟩ := p
        cases ex with
        | nrm => exact ih _ _ _ _ e
        | exit i => exact e
        | ret => exact e
    | exit id => exact e
    | ret => exact e
    | rangef x ps ca cb =>
      simp only at e ⊢
      split at e
      · split at e
        · rename_i hv hlt
          rw [if_pos hlt]
          split at e
          · rename_i v1 h1 hcall
            rw [callW_mono ih _ _ _ _ hcall]
            exact e
          · cases e
        · cases e
      · cases e

omit [LoopSpec] in
theorem evC_le {n m : Nat} (hm : n ≤ m) {c : CCode} {s : Fr} {h : AH} {r : EX × Fr × AH} (e : evC T n c s h = some r) : evC T m c s h = some r := by
  induction hm with
  | refl => exact e
  | step _ ih => exact evC_step _ _ _ _ _ ih

omit [LoopSpec] in
theorem callW_le {n m : Nat} (hm : n ≤ m) {f : Nat} {as : List PV} {h : AH} {r : PV × AH} (e : callW T (evC T n) f as h = some r) : callW T (evC T m) f as h = some r :=
  callW_mono (fun _ _ _ _ => evC_le hm) _ _ _ _ e

omit [LoopSpec] in
theorem evOps_le {n m : Nat} (hm : n ≤ m) {ops : List COper} {s : Fr} {h : AH} {r : Fr × AH} (e : evOps (callW T (evC T n)) ops s h = some r) : evOps (callW T (evC T m)) ops s h = some r :=
  evOps_mono (fun _ _ _ _ => callW_le hm) _ _ _ _ e

/-- A call that ends. -/
def CE (T : Nat → Option Fun) (f : Nat) (as : List PV) (h : AH) (v : PV) (h' : AH) : Prop := ∃ n, callW T (evC T n) f as h = some (v, h')
/-- Code that ends so. -/
def WC (T : Nat → Option Fun) (c : CCode) (s : Fr) (h : AH) (Q : EX → Fr → AH → Prop) : Prop := ∃ n ex s' h', evC T n c s h = some (ex, s', h') ∧ Q ex s' h'
def WO (T : Nat → Option Fun) (ops : List COper) (s : Fr) (h : AH) (Q : Fr → AH → Prop) : Prop := ∃ n s' h', evOps (callW T (evC T n)) ops s h = some (s', h') ∧ Q s' h'
def W1 (T : Nat → Option Fun) (o : COp) (s : Fr) (h : AH) (Q : PV → AH → Prop) : Prop := ∃ n v h', evOpB (callW T (evC T n)) o s h = some (v, h') ∧ Q v h'

omit [LoopSpec] in
theorem WC.imp {c : CCode} {s : Fr} {h : AH} {Q Q' : EX → Fr → AH → Prop} (hw : WC T c s h Q) (hq : ∀ e s h, Q e s h → Q' e s h) : WC T c s h Q' := by
  obtain ⟨n, ex, s', h', e, q⟩ := hw
  exact ⟨n, ex, s', h', e, hq _ _ _ q⟩

def thenQ (k : Fr → AH → Prop) (Q : EX → Fr → AH → Prop) : EX → Fr → AH → Prop
  | .nrm, s, h => k s h
  | .exit i, s, h => Q (.exit i) s h
  | .ret, s, h => Q .ret s h

def blockQ (id : Nat) (Q : EX → Fr → AH → Prop) : EX → Fr → AH → Prop
  | .nrm, s, h => Q .nrm s h
  | .exit i, s, h => if i = id then Q .nrm s h else Q (.exit i) s h
  | .ret, s, h => Q .ret s h

def condQ (v : PV) (A B : Prop) : Prop :=
  match v with
  | .bool true => A
  | .bool false => B
  | _ => False

def opQ (r : Option (PV × AH)) (Q : PV → AH → Prop) : Prop :=
  match r with
  | some (v, h) => Q v h
  | .none => False

omit [LoopSpec] in
theorem thenQ_nrm (k : Fr → AH → Prop) (Q : EX → Fr → AH → Prop) (s : Fr) (h : AH) : thenQ k Q .nrm s h = k s h := rfl
omit [LoopSpec] in
theorem thenQ_exit (k : Fr → AH → Prop) (Q : EX → Fr → AH → Prop) (s : Fr) (h : AH) (i : Nat) : thenQ k Q (.exit i) s h = Q (.exit i) s h := rfl
omit [LoopSpec] in
theorem thenQ_ret (k : Fr → AH → Prop) (Q : EX → Fr → AH → Prop) (s : Fr) (h : AH) : thenQ k Q .ret s h = Q .ret s h := rfl
omit [LoopSpec] in
theorem blockQ_nrm (id : Nat) (Q : EX → Fr → AH → Prop) (s : Fr) (h : AH) : blockQ id Q .nrm s h = Q .nrm s h := rfl
omit [LoopSpec] in
theorem blockQ_exit (id : Nat) (Q : EX → Fr → AH → Prop) (s : Fr) (h : AH) (i : Nat) : blockQ id Q (.exit i) s h = if i = id then Q .nrm s h else Q (.exit i) s h := rfl
omit [LoopSpec] in
theorem blockQ_ret (id : Nat) (Q : EX → Fr → AH → Prop) (s : Fr) (h : AH) : blockQ id Q .ret s h = Q .ret s h := rfl
omit [LoopSpec] in
theorem condQ_bool (b : Bool) (A B : Prop) : condQ (.bool b) A B = if b = true then A else B := by cases b <;> simp [condQ]
omit [LoopSpec] in
theorem condQ_true (A B : Prop) : condQ (.bool true) A B = A := rfl
omit [LoopSpec] in
theorem condQ_false (A B : Prop) : condQ (.bool false) A B = B := rfl
omit [LoopSpec] in
theorem opQ_some (v : PV) (h : AH) (Q : PV → AH → Prop) : opQ (some (v, h)) Q = Q v h := rfl

variable {s : Fr} {h : AH} {Q : EX → Fr → AH → Prop}

omit [LoopSpec] in
theorem WC_skip : WC T .skip s h Q = Q .nrm s h := by
  apply propext
  constructor
  · rintro ⟨n, ex, s', h', e, q⟩
    cases n with
    | zero => cases e
    | succ n => simp only [evC] at e; cases e; exact q
  · intro q; exact ⟨1, _, _, _, rfl, q⟩

omit [LoopSpec] in
theorem WC_exit {i : Nat} : WC T (.exit i) s h Q = Q (.exit i) s h := by
  apply propext
  constructor
  · rintro ⟨n, ex, s', h', e, q⟩
    cases n with
    | zero => cases e
    | succ n => simp only [evC] at e; cases e; exact q
  · intro q; exact ⟨1, _, _, _, rfl, q⟩

omit [LoopSpec] in
theorem WC_ret : WC T .ret s h Q = Q .ret s h := by
  apply propext
  constructor
  · rintro ⟨n, ex, s', h', e, q⟩
    cases n with
    | zero => cases e
    | succ n => simp only [evC] at e; cases e; exact q
  · intro q; exact ⟨1, _, _, _, rfl, q⟩

omit [LoopSpec] in
theorem WC_reg {ops : List COper} : WC T (.reg ops) s h Q = WO T ops s h (Q .nrm) := by
  apply propext
  constructor
  · rintro ⟨n, ex, s', h', e, q⟩
    cases n with
    | zero => cases e
    | succ n =>
      simp only [evC] at e
      cases hb : evOps (callW T (evC T n)) ops s h with
      | none => simp [hb] at e
      | some p => rw [hb] at e; cases e; exact ⟨n, _, _, hb, q⟩
  · rintro ⟨n, s', h', e, q⟩
    exact ⟨n + 1, .nrm, s', h', by simp only [evC, e], q⟩

omit [LoopSpec] in
theorem WC_seq {a b : CCode} : WC T (.seq a b) s h Q = WC T a s h (thenQ (fun s' h' => WC T b s' h' Q) Q) := by
  apply propext
  constructor
  · rintro ⟨n, ex, s', h', e, q⟩
    cases n with
    | zero => cases e
    | succ n =>
      simp only [evC] at e
      cases hb : evC T n a s h with
      | none => simp [hb] at e
      | some p =>
        obtain ⟨e1, s1, h1⟩ := p
        rw [hb] at e
        refine ⟨n, e1, s1, h1, hb, ?_⟩
        cases e1 with
        | nrm => exact ⟨n, _, _, _, e, q⟩
        | exit i => cases e; exact q
        | ret => cases e; exact q
  · rintro ⟨n, e1, s1, h1, hb, q⟩
    cases e1 with
    | nrm =>
      obtain ⟨m, ex, s', h', e, q⟩ := q
      refine ⟨max n m + 1, ex, s', h', ?_, q⟩
      simp only [evC, evC_le (Nat.le_max_left n m) hb]
      exact evC_le (Nat.le_max_right n m) e
    | exit i => exact ⟨n + 1, _, _, _, by simp only [evC, hb], q⟩
    | ret => exact ⟨n + 1, _, _, _, by simp only [evC, hb], q⟩

omit [LoopSpec] in
theorem WC_cond {c : Opd} {a b : CCode} : WC T (.cond c a b) s h Q = condQ (c.val s) (WC T a s h Q) (WC T b s h Q) := by
  apply propext
  constructor
  · rintro ⟨n, ex, s', h', e, q⟩
    cases n with
    | zero => cases e
    | succ n =>
      simp only [evC] at e
      split at e
      · rename_i hv; rw [hv]; exact ⟨n, _, _, _, e, q⟩
      · rename_i hv; rw [hv]; exact ⟨n, _, _, _, e, q⟩
      · cases e
  · intro q
    unfold condQ at q
    split at q
    · rename_i hv
      obtain ⟨n, ex, s', h', e, q⟩ := q
      exact ⟨n + 1, ex, s', h', by simp only [evC, hv]; exact e, q⟩
    · rename_i hv
      obtain ⟨n, ex, s', h', e, q⟩ := q
      exact ⟨n + 1, ex, s', h', by simp only [evC, hv]; exact e, q⟩
    · exact q.elim

omit [LoopSpec] in
theorem WC_block {id : Nat} {c : CCode} : WC T (.block id c) s h Q = WC T c s h (blockQ id Q) := by
  apply propext
  constructor
  · rintro ⟨n, ex, s', h', e, q⟩
    cases n with
    | zero => cases e
    | succ n =>
      simp only [evC] at e
      cases hb : evC T n c s h with
      | none => simp [hb] at e
      | some p =>
        obtain ⟨e1, s1, h1⟩ := p
        rw [hb] at e
        refine ⟨n, e1, s1, h1, hb, ?_⟩
        cases e1 with
        | nrm => cases e; exact q
        | exit i =>
          simp only [Option.some.injEq, Prod.mk.injEq] at e
          obtain ⟨rfl, rfl, rfl⟩ := e
          rw [blockQ_exit]
          by_cases hi : i = id <;> simpa [hi] using q
        | ret => cases e; exact q
  · rintro ⟨n, e1, s1, h1, hb, q⟩
    cases e1 with
    | nrm => exact ⟨n + 1, _, _, _, by simp only [evC, hb], q⟩
    | exit i =>
      rw [blockQ_exit] at q
      by_cases hi : i = id
      · rw [if_pos hi] at q; exact ⟨n + 1, .nrm, _, _, by simp only [evC, hb, if_pos hi], q⟩
      · rw [if_neg hi] at q; exact ⟨n + 1, .exit i, _, _, by simp only [evC, hb, if_neg hi], q⟩
    | ret => exact ⟨n + 1, _, _, _, by simp only [evC, hb], q⟩

omit [LoopSpec] in
/-- A loop: 'J k' holds before round k, and there are at most m rounds. -/
theorem WC_loop {c : CCode} (J : Nat → Fr → AH → Prop) (m : Nat)
    (step : ∀ k s h, k ≤ m → J k s h → WC T c s h (thenQ (fun s' h' => k < m ∧ J (k + 1) s' h') Q)) (h0 : J 0 s h) : WC T (.loop c) s h Q := by
  have : ∀ d k s h, k + d = m → J k s h → WC T (.loop c) s h Q := by
    intro d
    induction d with
    | zero =>
      intro k s h hk hj
      obtain ⟨n, e1, s1, h1, hb, q⟩ := step k s h (by omega) hj
      cases e1 with
      | nrm => exact absurd q.1 (by omega)
      | exit i => exact ⟨n + 1, _, _, _, by simp only [evC, hb], q⟩
      | ret => exact ⟨n + 1, _, _, _, by simp only [evC, hb], q⟩
    | succ d ih =>
      intro k s h hk hj
      obtain ⟨n, e1, s1, h1, hb, q⟩ := step k s h (by omega) hj
      cases e1 with
      | nrm =>
        obtain ⟨n2, e2, s2, h2, hb2, q2⟩ := ih (k + 1) s1 h1 (by omega) q.2
        refine ⟨max n n2 + 1, e2, s2, h2, ?_, q2⟩
        simp only [evC, evC_le (Nat.le_max_left n n2) hb]
        exact evC_le (Nat.le_max_right n n2) hb2
      | exit i => exact ⟨n + 1, _, _, _, by simp only [evC, hb], q⟩
      | ret => exact ⟨n + 1, _, _, _, by simp only [evC, hb], q⟩
  exact this m 0 s h (by omega) h0

omit [LoopSpec] in
theorem WO_nil {Q : Fr → AH → Prop} : WO T [] s h Q = Q s h := by
  apply propext
  constructor
  · rintro ⟨n, s', h', e, q⟩; simp only [evOps] at e; cases e; exact q
  · intro q; exact ⟨0, _, _, rfl, q⟩

omit [LoopSpec] in
theorem WO_cons {o : COper} {r : List COper} {Q : Fr → AH → Prop} :
    WO T (o :: r) s h Q = if wants o.guard s = true then W1 T o.op s h (fun v h' => WO T r (Fr.put s o.dst v) h' Q) else WO T r (Fr.put s o.dst .undef) h Q := by
  apply propext
  constructor
  · rintro ⟨n, s', h', e, q⟩
    simp only [evOps] at e
    split at e
    · rename_i hw
      rw [if_pos hw]
      cases ho : evOpB (callW T (evC T n)) o.op s h with
      | none => simp [ho] at e
      | some p => rw [ho] at e; exact ⟨n, p.1, p.2, ho, n, s', h', e, q⟩
    · rename_i hw
      rw [if_neg hw]
      exact ⟨n, s', h', e, q⟩
  · intro q
    split at q
    · rename_i hw
      obtain ⟨n, v, h1, ho, m, s', h', e, q⟩ := q
      refine ⟨max n m, s', h', ?_, q⟩
      have h2 : evOps (callW T (evC T n)) [⟨o.dst, o.op, .none⟩] s h = some (Fr.put s o.dst v, h1) := by simp only [evOps, wants, if_true, ho]
      have h3 := evOps_le (Nat.le_max_left n m) h2
      simp only [evOps, wants, if_true] at h3
      simp only [evOps, hw, if_true]
      cases ho2 : evOpB (callW T (evC T (max n m))) o.op s h with
      | none => simp [ho2] at h3
      | some p =>
        rw [ho2] at h3
        have h4 : Fr.put s o.dst p.1 = Fr.put s o.dst v ∧ p.2 = h1 := by simpa using h3
        simp only [h4.1, h4.2]
        exact evOps_le (Nat.le_max_right n m) e
    · rename_i hw
      obtain ⟨m, s', h', e, q⟩ := q
      exact ⟨m, s', h', by simp only [evOps]; rw [if_neg hw]; exact e, q⟩

omit [LoopSpec] in
/-- An op that is not a call. -/
theorem W1_op {o : COp} {Q : PV → AH → Prop} (hp : ∀ call call', evOp call o s h = evOp call' o s h) :
    W1 T o s h Q = opQ (evOpB (fun _ _ _ => .none) o s h) Q := by
  have hpb : ∀ call call', evOpB call o s h = evOpB call' o s h := fun call call' => by unfold evOpB; rw [hp call call']
  apply propext
  constructor
  · rintro ⟨n, v, h', e, q⟩
    rw [hpb _ (fun _ _ _ => .none)] at e
    rw [e]; exact q
  · intro q
    cases e : evOpB (fun _ _ _ => .none) o s h with
    | none => rw [e] at q; exact q.elim
    | some p => rw [e] at q; exact ⟨0, p.1, p.2, by rw [hpb _ (fun _ _ _ => .none)]; exact e, q⟩

omit [LoopSpec] in
theorem W1_call {f : Nat} {as : List Opd} {Q : PV → AH → Prop} : W1 T (.call f as) s h Q = ∃ v h', CE T f (as.map (Opd.val s)) h v h' ∧ Q v h' := by
  apply propext
  constructor
  · rintro ⟨n, v, h', e, q⟩; exact ⟨v, h', ⟨n, e⟩, q⟩
  · rintro ⟨v, h', ⟨n, e⟩, q⟩; exact ⟨n, v, h', e, q⟩

omit [LoopSpec] in
theorem W1_callv {f : Opd} {as : List Opd} {Q : PV → AH → Prop} {g : Nat} {fs cs : List PV} (hf : f.val s = .fn g fs cs) (hg : g < vb) :
    W1 T (.callv f as) s h Q = ∃ v h', CE T g (fs ++ as.map (Opd.val s) ++ cs) h v h' ∧ Q v h' := by
  have key : ∀ n, evOpB (callW T (evC T n)) (.callv f as) s h = callW T (evC T n) g (fs ++ as.map (Opd.val s) ++ cs) h := fun n => by
    show evOp (callW T (evC T n)) (.callv f as) s h = _
    simp only [evOp, hf, if_pos hg]
  apply propext
  constructor
  · rintro ⟨n, v, h', e, q⟩; rw [key] at e; exact ⟨v, h', ⟨n, e⟩, q⟩
  · rintro ⟨v, h', ⟨n, e⟩, q⟩; exact ⟨n, v, h', by rw [key]; exact e, q⟩

omit [LoopSpec] in
theorem W1_cally {f : Opd} {as : List Opd} {Q : PV → AH → Prop} {i : Nat} (hf : f.val s = .yl i) :
    W1 T (.callv f as) s h Q = ∃ v h', CE T (yb + i) (as.map (Opd.val s)) h v h' ∧ Q v h' := by
  have key : ∀ n, evOpB (callW T (evC T n)) (.callv f as) s h = callW T (evC T n) (yb + i) (as.map (Opd.val s)) h := fun n => by
    show evOp (callW T (evC T n)) (.callv f as) s h = _
    simp only [evOp, hf]
  apply propext
  constructor
  · rintro ⟨n, v, h', e, q⟩; rw [key] at e; exact ⟨v, h', ⟨n, e⟩, q⟩
  · rintro ⟨v, h', ⟨n, e⟩, q⟩; exact ⟨n, v, h', by rw [key]; exact e, q⟩

omit [LoopSpec] in
theorem W1_callp {g : Nat} {f : Opd} {as : List Opd} {Q : PV → AH → Prop} (hf : f.val s = .fn g [] []) (hg : g < vb) :
    W1 T (.callp g f as) s h Q = ∃ v h', CE T g (as.map (Opd.val s)) h v h' ∧ Q v h' := by
  have key : ∀ n, evOpB (callW T (evC T n)) (.callp g f as) s h = callW T (evC T n) g (as.map (Opd.val s)) h := fun n => by
    show evOp (callW T (evC T n)) (.callp g f as) s h = _
    simp only [evOp, hf]
    rw [if_pos ⟨trivial, hg⟩]
  apply propext
  constructor
  · rintro ⟨n, v, h', e, q⟩; rw [key] at e; exact ⟨v, h', ⟨n, e⟩, q⟩
  · rintro ⟨v, h', ⟨n, e⟩, q⟩; exact ⟨n, v, h', by rw [key]; exact e, q⟩

omit [LoopSpec] in
theorem W1_mov {x : Opd} {Q : PV → AH → Prop} : W1 T (.mov x) s h Q = opQ (evOp (fun _ _ _ => .none) (.mov x) s h) Q := W1_op fun _ _ => rfl
omit [LoopSpec] in
theorem W1_nilchk {x : Opd} {Q : PV → AH → Prop} : W1 T (.nilchk x) s h Q = opQ (evOp (fun _ _ _ => .none) (.nilchk x) s h) Q := W1_op fun _ _ => rfl
omit [LoopSpec] in
theorem W1_pick {c a b : Opd} {Q : PV → AH → Prop} : W1 T (.pick c a b) s h Q = opQ (evOp (fun _ _ _ => .none) (.pick c a b) s h) Q := W1_op fun _ _ => rfl
omit [LoopSpec] in
theorem W1_alloc {zs : List PV} {Q : PV → AH → Prop} : W1 T (.alloc zs) s h Q = opQ (evOp (fun _ _ _ => .none) (.alloc zs) s h) Q := W1_op fun _ _ => rfl
omit [LoopSpec] in
theorem W1_box {x : Opd} {Q : PV → AH → Prop} : W1 T (.box x) s h Q = opQ (evOp (fun _ _ _ => .none) (.box x) s h) Q := W1_op fun _ _ => rfl
omit [LoopSpec] in
theorem W1_boxi {x : Opd} {Q : PV → AH → Prop} : W1 T (.boxi x) s h Q = opQ (evOp (fun _ _ _ => .none) (.boxi x) s h) Q := W1_op fun _ _ => rfl
omit [LoopSpec] in
theorem W1_blit {n : Nat} {zs : List PV} {ps : List (Nat × Nat × Opd)} {Q : PV → AH → Prop} : W1 T (.blit n zs ps) s h Q = opQ (evOp (fun _ _ _ => .none) (.blit n zs ps) s h) Q := W1_op fun _ _ => rfl
omit [LoopSpec] in
theorem W1_clear {z : Nat} {zs : List PV} {x : Opd} {Q : PV → AH → Prop} : W1 T (.clear z zs x) s h Q = opQ (evOpB (fun _ _ _ => .none) (.clear z zs x) s h) Q := W1_op fun _ _ => rfl
omit [LoopSpec] in
theorem W1_bslice {z n : Nat} {zs : List PV} {ps : List (Nat × Nat × Opd)} {Q : PV → AH → Prop} : W1 T (.bslice z n zs ps) s h Q = opQ (evOp (fun _ _ _ => .none) (.bslice z n zs ps) s h) Q := W1_op fun _ _ => rfl
omit [LoopSpec] in
theorem W1_build {zs : List PV} {ps : List (Nat × Nat × Opd)} {Q : PV → AH → Prop} : W1 T (.build zs ps) s h Q = opQ (evOp (fun _ _ _ => .none) (.build zs ps) s h) Q := W1_op fun _ _ => rfl
omit [LoopSpec] in
theorem W1_load {g : Bool} {n : Nat} {a : Opd} {Q : PV → AH → Prop} : W1 T (.load g n a) s h Q = opQ (evOp (fun _ _ _ => .none) (.load g n a) s h) Q := W1_op fun _ _ => rfl
omit [LoopSpec] in
theorem W1_store {n : Nat} {a x : Opd} {Q : PV → AH → Prop} : W1 T (.store n a x) s h Q = opQ (evOpB (fun _ _ _ => .none) (.store n a x) s h) Q := W1_op fun _ _ => rfl
omit [LoopSpec] in
theorem W1_bin {op : BinOp} {x y : Opd} {Q : PV → AH → Prop} : W1 T (.bin op x y) s h Q = opQ (evOp (fun _ _ _ => .none) (.bin op x y) s h) Q := W1_op fun _ _ => rfl
omit [LoopSpec] in
theorem W1_eqb {g : Bool} {x y : Opd} {Q : PV → AH → Prop} : W1 T (.eqb g x y) s h Q = opQ (evOp (fun _ _ _ => .none) (.eqb g x y) s h) Q := W1_op fun _ _ => rfl
omit [LoopSpec] in
theorem W1_eqs {g : Bool} {ks : List Nat} {x y : Opd} {Q : PV → AH → Prop} : W1 T (.eqs g ks x y) s h Q = opQ (evOp (fun _ _ _ => .none) (.eqs g ks x y) s h) Q := W1_op fun _ _ => rfl
omit [LoopSpec] in
theorem W1_isnil {g : Bool} {k : Nat} {x : Opd} {Q : PV → AH → Prop} : W1 T (.isnil g k x) s h Q = opQ (evOp (fun _ _ _ => .none) (.isnil g k x) s h) Q := W1_op fun _ _ => rfl
omit [LoopSpec] in
theorem W1_un {op : UnOp} {x : Opd} {Q : PV → AH → Prop} : W1 T (.un op x) s h Q = opQ (evOp (fun _ _ _ => .none) (.un op x) s h) Q := W1_op fun _ _ => rfl
omit [LoopSpec] in
theorem W1_conv {k : IntKind} {x : Opd} {Q : PV → AH → Prop} : W1 T (.conv k x) s h Q = opQ (evOp (fun _ _ _ => .none) (.conv k x) s h) Q := W1_op fun _ _ => rfl
omit [LoopSpec] in
theorem W1_str {x : Opd} {Q : PV → AH → Prop} : W1 T (.str x) s h Q = opQ (evOp (fun _ _ _ => .none) (.str x) s h) Q := W1_op fun _ _ => rfl
omit [LoopSpec] in
theorem W1_mkfn {f : Nat} {fs cs : List Opd} {Q : PV → AH → Prop} : W1 T (.mkfn f fs cs) s h Q = opQ (evOp (fun _ _ _ => .none) (.mkfn f fs cs) s h) Q := W1_op fun _ _ => rfl
omit [LoopSpec] in
theorem W1_mkmap  {Q : PV → AH → Prop} : W1 T (.mkmap) s h Q = opQ (evOp (fun _ _ _ => .none) (.mkmap) s h) Q := W1_op fun _ _ => rfl
omit [LoopSpec] in
theorem W1_mkslice {z b : Nat} {zs : List PV} {l c : Opd} {Q : PV → AH → Prop} : W1 T (.mkslice z b zs l c) s h Q = opQ (evOp (fun _ _ _ => .none) (.mkslice z b zs l c) s h) Q := W1_op fun _ _ => rfl
omit [LoopSpec] in
theorem W1_slice {z : Nat} {x : Opd} {lo hi mx : Option Opd} {Q : PV → AH → Prop} : W1 T (.slice z x lo hi mx) s h Q = opQ (evOp (fun _ _ _ => .none) (.slice z x lo hi mx) s h) Q := W1_op fun _ _ => rfl
omit [LoopSpec] in
theorem W1_slstr {x : Opd} {lo hi : Option Opd} {Q : PV → AH → Prop} : W1 T (.slstr x lo hi) s h Q = opQ (evOp (fun _ _ _ => .none) (.slstr x lo hi) s h) Q := W1_op fun _ _ => rfl
omit [LoopSpec] in
theorem W1_fld {k : Nat} {x : Opd} {Q : PV → AH → Prop} : W1 T (.fld k x) s h Q = opQ (evOp (fun _ _ _ => .none) (.fld k x) s h) Q := W1_op fun _ _ => rfl
omit [LoopSpec] in
theorem W1_fldv {g : Bool} {k n : Nat} {x : Opd} {Q : PV → AH → Prop} : W1 T (.fldv g k n x) s h Q = opQ (evOp (fun _ _ _ => .none) (.fldv g k n x) s h) Q := W1_op fun _ _ => rfl
omit [LoopSpec] in
theorem W1_idx {z : Nat} {x i : Opd} {Q : PV → AH → Prop} : W1 T (.idx z x i) s h Q = opQ (evOp (fun _ _ _ => .none) (.idx z x i) s h) Q := W1_op fun _ _ => rfl
omit [LoopSpec] in
theorem W1_idxp {l z : Nat} {x i : Opd} {Q : PV → AH → Prop} : W1 T (.idxp l z x i) s h Q = opQ (evOp (fun _ _ _ => .none) (.idxp l z x i) s h) Q := W1_op fun _ _ => rfl
omit [LoopSpec] in
theorem W1_idxv {g : Bool} {l z : Nat} {x i : Opd} {Q : PV → AH → Prop} : W1 T (.idxv g l z x i) s h Q = opQ (evOp (fun _ _ _ => .none) (.idxv g l z x i) s h) Q := W1_op fun _ _ => rfl
omit [LoopSpec] in
theorem W1_idxs {x i : Opd} {Q : PV → AH → Prop} : W1 T (.idxs x i) s h Q = opQ (evOp (fun _ _ _ => .none) (.idxs x i) s h) Q := W1_op fun _ _ => rfl
omit [LoopSpec] in
theorem W1_lkp {kd : Nat} {z : PV} {ok : Bool} {m k : Opd} {Q : PV → AH → Prop} : W1 T (.lkp kd z ok m k) s h Q = opQ (evOp (fun _ _ _ => .none) (.lkp kd z ok m k) s h) Q := W1_op fun _ _ => rfl
omit [LoopSpec] in
theorem W1_upd {kd : Nat} {m k v : Opd} {Q : PV → AH → Prop} : W1 T (.upd kd m k v) s h Q = opQ (evOpB (fun _ _ _ => .none) (.upd kd m k v) s h) Q := W1_op fun _ _ => rfl
omit [LoopSpec] in
theorem W1_ext {x : Opd} {i : Nat} {Q : PV → AH → Prop} : W1 T (.ext x i) s h Q = opQ (evOp (fun _ _ _ => .none) (.ext x i) s h) Q := W1_op fun _ _ => rfl
omit [LoopSpec] in
theorem W1_len {k : Nat} {x : Opd} {Q : PV → AH → Prop} : W1 T (.len k x) s h Q = opQ (evOp (fun _ _ _ => .none) (.len k x) s h) Q := W1_op fun _ _ => rfl
omit [LoopSpec] in
theorem W1_app {z b : Nat} {x y : Opd} {Q : PV → AH → Prop} : W1 T (.app z b x y) s h Q = opQ (evOpB (fun _ _ _ => .none) (.app z b x y) s h) Q := W1_op fun _ _ => rfl
omit [LoopSpec] in
theorem W1_minmax {g : Bool} {xs : List Opd} {Q : PV → AH → Prop} : W1 T (.minmax g xs) s h Q = opQ (evOp (fun _ _ _ => .none) (.minmax g xs) s h) Q := W1_op fun _ _ => rfl
omit [LoopSpec] in
theorem W1_del {kd : Nat} {m k : Opd} {Q : PV → AH → Prop} : W1 T (.del kd m k) s h Q = opQ (evOpB (fun _ _ _ => .none) (.del kd m k) s h) Q := W1_op fun _ _ => rfl

omit [LoopSpec] in
theorem CE_prim {f : Nat} {as : List PV} {v : PV} {h' : AH} {p : Bool} {g : List PV → AH → Option (PV × AH)} (hf : T f = some (.prim p g)) (hg : g as h = some (v, h')) : CE T f as h v h' :=
  ⟨0, by unfold callW; rw [hf]; exact hg⟩

omit [LoopSpec] in
/-- A call in the caller's heap. -/
theorem CE_shared {f : Nat} {as : List PV} {v : PV} {h' : AH} {c : CFun} (hf : T f = some (.code c)) (hp : c.pure = false) (hx : c.ext = false)
    (hw : WC T c.body (initFr as) h (fun ex s' h1 => (ex = .nrm ∨ ex = .ret) ∧ h1 = h' ∧ resOf c.res s' h' = some v)) : CE T f as h v h' := by
  obtain ⟨n, ex, s', h1, e, hx2, rfl, hr⟩ := hw
  refine ⟨n, ?_⟩
  unfold callW
  rw [hf]
  simp only [hp, hx, Bool.false_eq_true, if_false, e]
  rcases hx2 with rfl | rfl <;> simp [hr, hx]

omit [LoopSpec] in
/-- A call in the caller's heap that writes only what it made. -/
theorem CE_ext {f : Nat} {as : List PV} {v : PV} {h' : AH} {c : CFun} (hf : T f = some (.code c)) (hp : c.pure = false) (hx : c.ext = true)
    (hw : WC T c.body (initFr as) h.bar (fun ex s' h1 => (ex = .nrm ∨ ex = .ret) ∧ h.unbar h1 = h' ∧ resOf c.res s' h1 = some v)) : CE T f as h v h' := by
  obtain ⟨n, ex, s', h1, e, hx', rfl, hr⟩ := hw
  refine ⟨n, ?_⟩
  unfold callW
  rw [hf]
  simp only [hp, hx, Bool.false_eq_true, if_false, if_true, e]
  rcases hx' with rfl | rfl <;> simp [hr]

omit [LoopSpec] in
/-- A pure call, its arguments immutable already. -/
theorem CE_pure {f : Nat} {as as' : List PV} {v : PV} {c : CFun} (hf : T f = some (.code c)) (hp : c.pure = true)
    (has : allO (snap h snapDepth) as = some as')
    (hw : WC T c.body (initFr as') AH.zero (fun ex s' h1 => (ex = .nrm ∨ ex = .ret) ∧ ∃ r0, resOf c.res s' h1 = some r0 ∧ snap h1 snapDepth r0 = some v ∧ (as.any (own snapDepth) = false ∨ noImm h1 snapDepth r0 = true))) : CE T f as h v h := by
  obtain ⟨n, ex, s', h1, e, hx, r0, hr, hs, ho⟩ := hw
  refine ⟨n, ?_⟩
  unfold callW
  rw [hf]
  simp only [hp, if_true, has, e]
  have : (as.any (own snapDepth) && !noImm h1 snapDepth r0) = false := by rcases ho with ho | ho <;> simp [ho]
  rcases hx with rfl | rfl <;> simp [pureRes, hr, this, hs]
end
end Go.Ev

/- Shapes: the arguments of a statement as plain data, and the abstract machine's values for them. -/
set_option linter.unusedVariables false
set_option linter.unusedSimpArgs false
namespace Go.Ev
variable [LoopSpec]

inductive Sh where
  | int (k : IntKind)
  | bool
  | str
  | sl (e : Sh)
  | unit
  | pair (a b : Sh)

def Sh.size : Sh → Nat
  | .unit => 0
  | .pair a b => a.size + b.size
  | _ => 1

def Sh.den : Sh → Type
  | .int _ => Int
  | .bool => Bool
  | .str => ByteArray
  | .sl e => List e.den
  | .unit => Unit
  | .pair a b => a.den × b.den

def Sh.pv : (s : Sh) → s.den → List PV
  | .int k, (n : Int) => [.int k n]
  | .bool, (b : Bool) => [.bool b]
  | .str, (b : ByteArray) => [.str b]
  | .sl e, (l : List e.den) => [.sl l.length (l.map e.pv).flatten]
  | .unit, _ => []
  | .pair a b, (x : a.den × b.den) => a.pv x.1 ++ b.pv x.2

def Sh.ok : (s : Sh) → s.den → Prop
  | .int k, (n : Int) => k.min ≤ n ∧ n ≤ k.max
  | .bool, _ => True
  | .str, (b : ByteArray) => b.size ≤ maxLen
  | .sl e, (l : List e.den) => l.length ≤ maxLen ∧ ∀ x ∈ l, e.ok x
  | .unit, _ => True
  | .pair a b, (x : a.den × b.den) => a.ok x.1 ∧ b.ok x.2

omit [LoopSpec] in
theorem Sh.pv_len : ∀ (s : Sh) (d : s.den), (s.pv d).length = s.size
  | .int _, _ => rfl
  | .bool, _ => rfl
  | .str, _ => rfl
  | .sl _, _ => rfl
  | .unit, _ => rfl
  | .pair a b, x => by simp only [Sh.pv, List.length_append, Sh.size, a.pv_len, b.pv_len]

omit [LoopSpec] in
theorem Sh.pv_one : ∀ (s : Sh) (d : s.den), ∀ x ∈ s.pv d, x.one = true
  | .int _, _ => by intro x hx; cases List.mem_singleton.1 hx; rfl
  | .bool, _ => by intro x hx; cases List.mem_singleton.1 hx; rfl
  | .str, _ => by intro x hx; cases List.mem_singleton.1 hx; rfl
  | .sl _, _ => by intro x hx; cases List.mem_singleton.1 hx; rfl
  | .unit, _ => by intro x hx; cases hx
  | .pair a b, y => by
    intro x hx
    rcases List.mem_append.1 hx with h | h
    · exact a.pv_one _ x h
    · exact b.pv_one _ x h

def shFs (r : TypeId → Option Sh) (P : Program) : Nat → List Field → Option Sh
  | _, [] => some .unit
  | off, f :: fs => if f.offset = off then match r f.type with
    | some s => if s.size = P.cellsOf f.type then match shFs r P (off + s.size) fs with
      | some s' => some (.pair s s')
      | none => none
      else none
    | none => none
    else none

def shT (P : Program) : Nat → TypeId → Option Sh
  | 0, _ => none
  | n + 1, t => match P.underlying t with
    | some .bool => some .bool
    | some (.int k) => some (.int k)
    | some .string => some .str
    | some (.slice e) => match shT P n e with
      | some s => if s.size = P.cellsOf e then some (.sl s) else none
      | none => none
    | some (.struct fs) => match shFs (shT P n) P 0 fs.toList with
      | some s => if s.size = P.cellsOf t then some s else none
      | none => none
    | _ => none

omit [LoopSpec] in
theorem flat_len {α β : Type} {f : α → List β} {z : Nat} (hf : ∀ x, (f x).length = z) (l : List α) : (l.map f).flatten.length = l.length * z := by
  induction l with
  | nil => simp
  | cons a l ih => simp [ih, hf, Nat.succ_mul, Nat.add_comm]

omit [LoopSpec] in
theorem flat_get {α β : Type} {f : α → List β} {z : Nat} (hf : ∀ x, (f x).length = z) : ∀ (l : List α) (i k : Nat) (hi : i < l.length) (hk : k < z),
    (l.map f).flatten[i * z + k]? = (f l[i])[k]? := by
  intro l
  induction l with
  | nil => intro i k hi; simp at hi
  | cons a l ih =>
    intro i k hi hk
    rw [List.map_cons, List.flatten_cons]
    cases i with
    | zero => simp only [Nat.zero_mul, Nat.zero_add]; rw [List.getElem?_append_left (by rw [hf]; exact hk)]; rfl
    | succ i =>
      rw [List.getElem?_append_right (by rw [hf, Nat.succ_mul]; omega), hf, show (i + 1) * z + k - z = i * z + k by rw [Nat.succ_mul]; omega]
      rw [ih i k (by simpa using hi) hk]
      rfl

section
variable {H : Type} {enc : TypeId × Value → H} {P : Program} {w : World} {base : Nat} {sp : Nat → Bool} {held : Bool} {ρ : Nat → Option (Nat × Nat)} {I : Nat → Prop}

def CR (ρ : Nat → Option (Nat × Nat)) (I : Nat → Prop) (w : World) (cs : List Value) (vs : List PV) : Prop :=
  cs.length = vs.length ∧ ∀ j (hj : j < vs.length), VR ρ I w (cs.getD j undef) vs[j]

omit [LoopSpec] in
theorem CR_one {u : Value} {v : PV} (h : VR ρ I w u v) : CR ρ I w [u] [v] :=
  ⟨rfl, fun j hj => by
    have : j = 0 := by simpa using hj
    subst this
    exact h⟩

omit [LoopSpec] in
theorem CR_append {a b : List Value} {x y : List PV} (h1 : CR ρ I w a x) (h2 : CR ρ I w b y) : CR ρ I w (a ++ b) (x ++ y) := by
  refine ⟨by simp [h1.1, h2.1], fun j hj => ?_⟩
  rw [List.getElem_append, List.getD_eq_getElem?_getD, List.getElem?_append]
  by_cases h : j < x.length
  · rw [dif_pos h, if_pos (by rw [h1.1]; exact h), ← List.getD_eq_getElem?_getD]
    exact h1.2 j h
  · rw [dif_neg h, if_neg (by rw [h1.1]; exact h), ← List.getD_eq_getElem?_getD, h1.1]
    exact h2.2 _ _

omit [LoopSpec] in
theorem mapM_cons_some {α β : Type} {f : α → Option β} {a : α} {l : List α} {r : List β} (h : (a :: l).mapM f = some r) : ∃ y ys, f a = some y ∧ l.mapM f = some ys ∧ r = y :: ys := by
  rw [List.mapM_cons] at h
  cases ha : f a with
  | none => simp [ha] at h
  | some y =>
    cases hl : l.mapM f with
    | none => simp [ha, hl] at h
    | some ys => simp [ha, hl] at h; exact ⟨y, ys, rfl, rfl, h.symm⟩

omit [LoopSpec] in
theorem shFs_sound {r : TypeId → List Value → Option (DataW H × List MemPlace)} {sh : TypeId → Option Sh}
    (ih : ∀ t cs x s, r t cs = some x → sh t = some s → ∃ d : s.den, s.ok d ∧ CR ρ I w cs (s.pv d)) (cs : List Value) :
    ∀ (fs : List Field) (off : Nat) (s : Sh) (xs : List (DataW H × List MemPlace)), shFs sh P off fs = some s → (fs.mapM fun f => r f.type ((cs.drop f.offset).take (P.cellsOf f.type))) = some xs →
      ∃ d : s.den, s.ok d ∧ CR ρ I w ((cs.drop off).take s.size) (s.pv d) := by
  intro fs
  induction fs with
  | nil =>
    intro off s xs h _
    simp only [shFs] at h
    cases h
    exact ⟨(), trivial, by simp [Sh.size, Sh.pv, CR]⟩
  | cons f fs ihf =>
    intro off s xs h hm
    obtain ⟨y, ys, hy, hys, rfl⟩ := mapM_cons_some hm
    simp only [shFs] at h
    split at h
    · rename_i hoff
      split at h
      · rename_i s1 hs1
        split at h
        · rename_i hz
          split at h
          · rename_i s2 hs2
            cases h
            obtain ⟨d1, ho1, hc1⟩ := ih _ _ _ _ hy hs1
            obtain ⟨d2, ho2, hc2⟩ := ihf _ _ _ hs2 hys
            refine ⟨(d1, d2), ⟨ho1, ho2⟩, ?_⟩
            rw [← hz, hoff] at hc1
            have : (cs.drop off).take (s1.size + s2.size) = (cs.drop off).take s1.size ++ (cs.drop (off + s1.size)).take s2.size := by
              rw [List.take_add, List.drop_drop]
            show CR ρ I w ((cs.drop off).take (s1.size + s2.size)) _
            rw [this]
            exact CR_append hc1 hc2
          · cases h
        · cases h
      · cases h
    · cases h

omit [LoopSpec] in
theorem cell_spot {a : Addr} {x : Value} (h : w.cell? a = some x) : a = ⟨a.block, a.off, none⟩ := by
  unfold World.cell? at h
  split at h
  · split at h
    · cases h
    · rename_i hs
      cases hsp : a.spot with
      | none => cases a; simp_all
      | some s => simp [hsp] at hs
  · cases h

omit [LoopSpec] in
theorem add_none (b o n : Nat) : Addr.add ⟨b, o, none⟩ n = ⟨b, o + n, none⟩ := by
  unfold Addr.add
  split
  · rename_i h; simp [h]
  · rfl

omit [LoopSpec] in
/-- A slice's elements, read one by one, make one slice of the abstract machine. -/
theorem sl_sound {e : Sh} {a : Addr} {len cap : Nat} (hlc : len ≤ cap) (hI : ∀ b, base ≤ b → b < w.heap.size → I b)
    (hel : ∀ i, i < len → ∃ cs, w.cells? base (a.add (i * e.size)) e.size = some cs ∧ ∃ d : e.den, e.ok d ∧ CR ρ I w cs (e.pv d)) :
    ∃ l : List e.den, l.length = len ∧ (∀ x ∈ l, e.ok x) ∧ VR ρ I w (.slice (some a) len cap) (.sl len (l.map e.pv).flatten) := by
  have hch : ∃ l : List e.den, l.length = len ∧ ∀ i (hi : i < l.length), e.ok l[i] ∧ ∃ cs, w.cells? base (a.add (i * e.size)) e.size = some cs ∧ CR ρ I w cs (e.pv l[i]) := by
    clear hlc
    induction len with
    | zero => exact ⟨[], rfl, fun i hi => absurd hi (by simp)⟩
    | succ n ih =>
      obtain ⟨l, hl, hp⟩ := ih fun i hi => hel i (by omega)
      obtain ⟨cs, h1, d, h2, h3⟩ := hel n (by omega)
      refine ⟨l ++ [d], by simp [hl], fun i hi => ?_⟩
      by_cases h : i < l.length
      · rw [List.getElem_append_left h]; exact hp i h
      · have : i = n := by simp at hi; omega
        subst this
        rw [List.getElem_append_right (by omega)]
        simp only [hl, Nat.sub_self, List.getElem_cons_zero]
        exact ⟨h2, cs, h1, h3⟩
  obtain ⟨l, hl, hp⟩ := hch
  refine ⟨l, hl, fun x hx => ?_, ?_⟩
  · obtain ⟨i, hi, rfl⟩ := List.getElem_of_mem hx; exact (hp i hi).1
  have hlen : (l.map e.pv).flatten.length = len * e.size := by rw [flat_len (e.pv_len), hl]
  by_cases hne : (l.map e.pv).flatten = []
  · rw [hne]
    exact .sl (fun _ => undef) hlc (fun h => absurd rfl h) (fun j hj => absurd hj (by simp)) (by simp)
  have hpos : 0 < len * e.size := by rw [← hlen]; exact List.length_pos_iff.2 hne
  have hz : 0 < e.size := Nat.pos_of_mul_pos_left hpos
  have hn : 0 < len := Nat.pos_of_mul_pos_right hpos
  obtain ⟨_, cs0, h0, h00⟩ := hp 0 (by omega)
  have ha : a = ⟨a.block, a.off, none⟩ ∧ I a.block := by
    have hb : a.block < w.heap.size := by
      have := World.cells?_block h0 hz
      unfold Addr.add at this
      split at this <;> exact this
    obtain ⟨h1, h2, h3⟩ := World.cells?_some h0
    have h4 := h3 0 hz
    simp only [Nat.zero_mul] at h4 h1
    have e1 : (a.add 0).add 0 = a := by simp [Addr.add]
    have e2 : a.add 0 = a := by simp [Addr.add]
    rw [e1] at h4
    rw [e2] at h1
    refine ⟨?_, hI _ h1 hb⟩
    have : cs0[0]? = some (cs0[0]'(by omega)) := List.getElem?_eq_getElem _
    rw [this] at h4
    exact cell_spot h4
  obtain ⟨ha, hIb⟩ := ha
  have key : ∀ j (hj : j < (l.map e.pv).flatten.length), ∃ u, w.cell? ⟨a.block, a.off + j, none⟩ = some u ∧ VR ρ I w u (l.map e.pv).flatten[j] := by
    intro j hj
    have hi : j / e.size < l.length := by rw [hl]; exact Nat.div_lt_of_lt_mul (by rw [Nat.mul_comm]; omega)
    have hk : j % e.size < e.size := Nat.mod_lt _ hz
    have hjj : j / e.size * e.size + j % e.size = j := by rw [Nat.mul_comm]; exact Nat.div_add_mod j e.size
    obtain ⟨_, cs, h1, h2⟩ := hp _ hi
    obtain ⟨_, h4, h5⟩ := World.cells?_some h1
    have h6 := h5 _ hk
    rw [ha, add_none, add_none, Nat.add_assoc, hjj] at h6
    have hk' : j % e.size < cs.length := by omega
    rw [List.getElem?_eq_getElem hk'] at h6
    refine ⟨_, h6, ?_⟩
    have h7 := flat_get (e.pv_len) l (j / e.size) (j % e.size) hi hk
    rw [hjj, List.getElem?_eq_getElem hj] at h7
    have hk2 : j % e.size < (e.pv l[j / e.size]).length := by rw [e.pv_len]; exact hk
    rw [List.getElem?_eq_getElem hk2] at h7
    have h8 := h2.2 _ hk2
    rw [List.getD_eq_getElem?_getD, List.getElem?_eq_getElem hk'] at h8
    rw [Option.some.inj h7]
    exact h8
  refine .sl (fun j => (w.cell? ⟨a.block, a.off + j, none⟩).getD undef) hlc (fun _ => ⟨a.block, a.off, by rw [← ha], hIb, fun j hj => ?_⟩) (fun j hj => ?_) ?_
  · obtain ⟨u, h1, _⟩ := key j hj; rw [h1]; rfl
  · obtain ⟨u, h1, h2⟩ := key j hj; rw [h1]; exact h2
  · intro x hx
    obtain ⟨y, hy, hxy⟩ := List.mem_flatten.1 hx
    obtain ⟨d, _, rfl⟩ := List.mem_map.1 hy
    exact e.pv_one d x hxy

omit [LoopSpec] in
theorem trod_sh (hI : ∀ b, base ≤ b → b < w.heap.size → I b) : ∀ (n : Nat) (t : TypeId) (cs : List Value) (x : DataW H × List MemPlace), DataW.trod enc P w base sp held n t cs = some x →
    ∀ (m : Nat) (s : Sh), shT P m t = some s → ∃ d : s.den, s.ok d ∧ CR ρ I w cs (s.pv d) := by
  intro n
  induction n with
  | zero => intro t cs x h; simp [DataW.trod] at h
  | succ n ih =>
    intro t cs x h m s hs
    cases m with
    | zero => cases hs
    | succ m =>
    rw [DataW.trod_step] at h
    simp only [shT] at hs
    split at hs
    · rename_i hu
      cases hs
      unfold DataW.trodStep at h
      rw [hu] at h
      split at h
      all_goals first | cases h; done | skip
      all_goals first | (rename_i e1 _; cases e1; done) | skip
      all_goals first | exact ⟨_, trivial, CR_one (.bool _)⟩ | (rename_i e1; cases e1; done) | skip
    · rename_i k hu
      cases hs
      unfold DataW.trodStep at h
      rw [hu] at h
      split at h <;> rename_i e1 <;> (try cases e1)
      · split at h
        · rename_i hc
          obtain ⟨rfl, hw⟩ := hc
          simp only [Lit.wf, Bool.and_eq_true, decide_eq_true_eq] at hw
          exact ⟨_, hw, CR_one (.int _ _)⟩
        · cases h
      all_goals cases h
    · rename_i hu
      cases hs
      unfold DataW.trodStep at h
      rw [hu] at h
      split at h <;> rename_i e1 <;> (try cases e1)
      · split at h
        · rename_i hc
          exact ⟨_, hc, CR_one (.str _)⟩
        · cases h
      all_goals cases h
    · rename_i e hu
      split at hs
      · rename_i s1 hs1
        split at hs
        · rename_i hz
          cases hs
          unfold DataW.trodStep at h
          rw [hu] at h
          split at h <;> rename_i e1 <;> (try cases e1)
          · exact ⟨([] : List s1.den), ⟨Nat.zero_le _, fun x hx => by cases hx⟩, CR_one (.sl (fun _ => undef) (Nat.le_refl 0) (fun h => absurd rfl h) (fun j hj => absurd hj (by simp)) (by simp))⟩
          · simp only at h
            split at h
            · rename_i hc
              simp only [Option.map_eq_some_iff, Option.bind_eq_some_iff] at h
              obtain ⟨elems, he, rest, hrest, rfl⟩ := h
              rw [← hz] at he
              obtain ⟨l, h1, h2, h3⟩ := sl_sound (ρ := ρ) (e := s1) hc.2.1 hI fun i hi => by
                have hlen := mapM_some_length he
                have hg := mapM_some_get he i i (by simp [hi])
                have hi' : i < elems.length := by rw [hlen]; simpa using hi
                rw [List.getElem?_eq_getElem hi', Option.bind_eq_some_iff] at hg
                obtain ⟨cs, hcs, hr⟩ := hg
                exact ⟨cs, hcs, ih _ _ _ hr m s1 hs1⟩
              refine ⟨l, ⟨by rw [h1]; omega, h2⟩, ?_⟩
              show CR ρ I w _ [PV.sl l.length (l.map s1.pv).flatten]
              rw [h1]
              exact CR_one h3
            · cases h
          all_goals cases h
        · cases hs
      · cases hs
    · rename_i fs hu
      split at hs
      · rename_i s1 hs1
        split at hs
        · rename_i hz
          cases hs
          unfold DataW.trodStep at h
          rw [hu] at h
          change (if cs.length = P.cellsOf t then (fs.toList.mapM fun f => DataW.trod enc P w base sp held n f.type ((cs.drop f.offset).take (P.cellsOf f.type))).map fun xs => (DataW.agg (xs.map (·.1)), xs.flatMap (·.2)) else none) = some x at h
          split at h
          · rename_i hc
            simp only [Option.map_eq_some_iff] at h
            obtain ⟨xs, hx, rfl⟩ := h
            obtain ⟨d, h1, h2⟩ := shFs_sound (ρ := ρ) (I := I) (w := w) (fun t cs x s hr hsh => ih t cs x hr m s hsh) cs _ _ _ _ hs1 hx
            refine ⟨d, h1, ?_⟩
            rw [List.drop_zero, hz, ← hc, List.take_length] at h2
            exact h2
          · cases h
        · cases hs
      · cases hs
    · cases hs
end
end Go.Ev

/- From the evaluator's answer to a call's contract, and a statement's arguments as the abstract machine's values. -/
set_option linter.unusedVariables false
set_option linter.unusedSimpArgs false
namespace Go.Ev
variable [LoopSpec]
section
variable {H : Type} {enc : TypeId × Value → H} {P : Program} {W : World} {base : Nat} {pu : Nat → Bool} {T : Nat → Option Fun}

def R0 : Nat → Option (Nat × Nat) := fun _ => none

theorem calls_true (ht : TOk P pu T) {f : Nat} {args : Array Value} {as : List PV} {h' : AH} (hv : VRL R0 (fun b => b < W.heap.size) W args as)
    (he : CE T f as AH.zero (.bool true) h') : Calls P (rl f) args W fun e W' => e = .returned (.bool true) ∧ RowKit.Below W.heap.size W W' := by
  obtain ⟨n, he⟩ := he
  have hs : SR R0 (fun b => b < W.heap.size) AH.zero W :=
    ⟨fun i B hB => (by cases hB), fun i j b o o' hi => absurd rfl hi, fun i b o hi => absurd rfl hi, fun i x hx => (by cases hx), fun b hb => hb, fun i t q => (by cases q)⟩
  have hyb : f < yb := by
    rcases Nat.lt_or_ge f yb with q | q
    · exact q
    · unfold callW at he
      rw [(ht.lim f q).1] at he
      simp only at he
      split at he
      · obtain ⟨_, L, _, _, _, _, _, _, _, hb, _⟩ := yldW_inv he
        cases hb
      · cases he
  refine (((callOk ht n).fn f as AH.zero _ h' hyb he).2 R0 _ W args hs hv).mono ?_
  rintro e W' ⟨ρ', I', u, rfl, st, _, hu⟩
  cases hu
  exact ⟨rfl, st.below⟩

omit [LoopSpec] in
theorem arg_struct {t : TypeId} {fs : Array Field} {v : Value} {d : DataW H} {p : List MemPlace} {sp : Nat → Bool} {held : Bool} (hu : P.underlying t = some (.struct fs)) {m : Nat} {s : Sh} (hs : shT P m t = some s)
    (hv : Value.okWide P W .any base t v) (ht : DataW.Trod enc P W 0 sp held t v d p) : ∃ x : s.den, s.ok x ∧ VR R0 (fun b => b < W.heap.size) W v (.agg (s.pv x)) := by
  simp only [Value.okWide, hu] at hv
  obtain ⟨cs, rfl, hsz, _⟩ := hv
  obtain ⟨n, hn⟩ := ht
  obtain ⟨x, hx, hc⟩ := trod_sh (ρ := R0) (I := fun b => b < W.heap.size) (fun b _ hb => hb) n t _ _ hn m s hs
  refine ⟨x, hx, .agg hc.1 (fun j hj => ?_) (s.pv_one x)⟩
  have := hc.2 j hj
  simpa [Value.cells, Array.getD_eq_getD_getElem?, List.getD_eq_getElem?_getD] using this

omit [LoopSpec] in
theorem arg_one {t : TypeId} {v : Value} {d : DataW H} {p : List MemPlace} {sp : Nat → Bool} {held : Bool} {m : Nat} {s : Sh} (hs : shT P m t = some s)
    (hv : v.cells = #[v]) (ht : DataW.Trod enc P W 0 sp held t v d p) : ∃ x : s.den, s.ok x ∧ CR R0 (fun b => b < W.heap.size) W [v] (s.pv x) := by
  obtain ⟨n, hn⟩ := ht
  rw [hv] at hn
  exact trod_sh (ρ := R0) (I := fun b => b < W.heap.size) (fun b _ hb => hb) n t _ _ hn m s hs

omit [LoopSpec] in
theorem CR_head {u : Value} {v : PV} {ρ : Nat → Option (Nat × Nat)} {I : Nat → Prop} (h : CR ρ I W [u] [v]) : VR ρ I W u v := h.2 0 (by simp)

omit [LoopSpec] in
theorem VRL_one {u : Value} {v : PV} {ρ : Nat → Option (Nat × Nat)} {I : Nat → Prop} (h : VR ρ I W u v) : VRL ρ I W #[u] [v] :=
  ⟨rfl, fun j hj => by
    have : j = 0 := by simpa using hj
    subst this
    exact h⟩

omit [LoopSpec] in
theorem VRL_two {u1 u2 : Value} {v1 v2 : PV} {ρ : Nat → Option (Nat × Nat)} {I : Nat → Prop} (h1 : VR ρ I W u1 v1) (h2 : VR ρ I W u2 v2) : VRL ρ I W #[u1, u2] [v1, v2] :=
  ⟨rfl, fun j hj => by
    have : j = 0 ∨ j = 1 := by simp at hj; omega
    rcases this with rfl | rfl
    · exact h1
    · exact h2⟩
end
end Go.Ev

/- Library functions by their contracts: the sort of whole numbers. -/
set_option linter.unusedVariables false
set_option linter.unusedSimpArgs false
namespace Go.Ev
variable [LoopSpec]
open Go.Sort Go.RowKit

def insI (x : Int) : List Int → List Int
  | [] => [x]
  | y :: r => if x ≤ y then x :: y :: r else y :: insI x r
def sortI : List Int → List Int
  | [] => []
  | x :: r => insI x (sortI r)

omit [LoopSpec] in
theorem insI_perm (x : Int) : ∀ l : List Int, (insI x l).Perm (x :: l)
  | [] => List.Perm.refl _
  | y :: r => by
    unfold insI
    split
    · exact List.Perm.refl _
    · exact ((insI_perm x r).cons y).trans (List.Perm.swap x y r)
omit [LoopSpec] in
theorem sortI_perm : ∀ l : List Int, (sortI l).Perm l
  | [] => List.Perm.refl _
  | x :: r => (insI_perm x _).trans ((sortI_perm r).cons x)
omit [LoopSpec] in
theorem insI_sorted (x : Int) : ∀ l : List Int, l.Pairwise (· ≤ ·) → (insI x l).Pairwise (· ≤ ·)
  | [], _ => by simp [insI]
  | y :: r, h => by
    unfold insI
    have h1 := List.pairwise_cons.1 h
    split
    · rename_i hxy
      refine List.pairwise_cons.2 ⟨fun a ha => ?_, h⟩
      rcases List.mem_cons.1 ha with rfl | ha
      · exact hxy
      · exact Int.le_trans hxy (h1.1 a ha)
    · rename_i hxy
      refine List.pairwise_cons.2 ⟨fun a ha => ?_, insI_sorted x r h1.2⟩
      rcases List.mem_cons.1 ((insI_perm x r).mem_iff.1 ha) with rfl | ha
      · omega
      · exact h1.1 a ha
omit [LoopSpec] in
theorem sortI_sorted : ∀ l : List Int, (sortI l).Pairwise (· ≤ ·)
  | [] => List.Pairwise.nil
  | x :: r => insI_sorted x _ (sortI_sorted r)

omit [LoopSpec] in
theorem sorted_unique : ∀ {a b : List Int}, a.Perm b → a.Pairwise (· ≤ ·) → b.Pairwise (· ≤ ·) → a = b
  | [], b, p, _, _ => by rw [List.nil_perm.1 p]
  | x :: a, b, p, ha, hb => by
    cases b with
    | nil => exact absurd p.length_eq (by simp)
    | cons y b =>
      have h1 := List.pairwise_cons.1 ha
      have h2 := List.pairwise_cons.1 hb
      have hxy : x ≤ y := by
        rcases List.mem_cons.1 (p.symm.mem_iff.1 (List.mem_cons_self (a := y) (l := b))) with e | e
        · omega
        · exact h1.1 y e
      have hyx : y ≤ x := by
        rcases List.mem_cons.1 (p.mem_iff.1 (List.mem_cons_self (a := x) (l := a))) with e | e
        · omega
        · exact h2.1 x e
      obtain rfl : x = y := by omega
      rw [sorted_unique (List.Perm.cons_inv p) h1.2 h2.2]

omit [LoopSpec] in
theorem sortI_eq (l : List Int) : (l.mergeSort fun x y => decide (x ≤ y)) = sortI l := by
  refine sorted_unique ((List.mergeSort_perm l _).trans (sortI_perm l).symm) ?_ (sortI_sorted l)
  have := List.pairwise_mergeSort (le := fun x y : Int => decide (x ≤ y)) (fun a b c h1 h2 => by simp at *; omega) (fun a b => by simp; omega) l
  exact this.imp fun h => by simpa using h

omit [LoopSpec] in
theorem insI_length (x : Int) (l : List Int) : (insI x l).length = l.length + 1 := by rw [(insI_perm x l).length_eq]; rfl
omit [LoopSpec] in
theorem sortI_length (l : List Int) : (sortI l).length = l.length := (sortI_perm l).length_eq

def ints : List PV → Option (List Int)
  | [] => some []
  | .int .i64 n :: r => match ints r with
    | some l => some (n :: l)
    | none => none
  | _ :: _ => none

omit [LoopSpec] in
theorem ints_eq : ∀ {cs : List PV} {l : List Int}, ints cs = some l → cs = l.map fun m => .int .i64 m
  | [], l, e => by cases e; rfl
  | c :: r, l, e => by
    cases c with
    | int k n =>
      cases k with
      | i64 =>
        simp only [ints] at e
        split at e
        · rename_i l' hl
          cases e
          rw [ints_eq hl]; rfl
        · cases e
      | _ => simp [ints] at e
    | _ => simp [ints] at e

omit [LoopSpec] in
theorem ints_map (l : List Int) : ints (l.map fun m => .int .i64 m) = some l := by
  induction l with
  | nil => rfl
  | cons a l ih => simp [ints, ih]

def primSort (as : List PV) (h : AH) : Option (PV × AH) :=
  match as with
  | [.emp] => some (.tup [], h)
  | [.rf z i o n] => if n = 0 then some (.tup [], h) else if h.lo ≤ i then match h.row i with
    | some cs => match ints ((cs.drop o).take n) with
      | some zs => if z = 1 ∧ o + n ≤ cs.length ∧ n < 4611686018427387904 then some (.tup [], h.set i (.cells (splice cs o ((sortI zs).map fun m => .int .i64 m)))) else none
      | none => none
    | none => none
    else none
  | _ => none

section
variable {P : Program} {f : Nat}

omit [LoopSpec] in
theorem row_some {h : AH} {i : Nat} {cs : List PV} (e : h.row i = some cs) : h.blk i = some (.cells cs) := by
  unfold AH.row at e
  split at e
  · rename_i cs' hb; cases e; exact hb
  · cases e

omit [LoopSpec] in
theorem VRL_sing {ρ : Nat → Option (Nat × Nat)} {I : Nat → Prop} {w : World} {us : Array Value} {v : PV} (hv : VRL ρ I w us [v]) : ∃ u, us = #[u] ∧ VR ρ I w u v := by
  obtain ⟨l⟩ := us
  obtain ⟨h1, h2⟩ := hv
  match l, h1, h2 with
  | [u], _, h2 => exact ⟨u, rfl, h2 0 (by simp)⟩

theorem primSort_ok (hc : Callable P (rl f))
    (h0 : ∀ (p : Option Addr) (cap : Nat) (w : World), Calls P (rl f) #[.slice p 0 cap] w fun e w' => e = .returned (.tuple #[]) ∧ w' = w)
    (h1 : ∀ (blk off cap : Nat) (zs : List Int) (w : World), Holds (Value.int .i64) w blk off zs.toArray → blk < w.heap.size → zs.length < 4611686018427387904 →
      Calls P (rl f) #[.slice (some ⟨blk, off, none⟩) zs.length cap] w fun e w' =>
        e = .returned (.tuple #[]) ∧ ∃ n os, w' = grow (putRow (Value.int .i64) (Sort.ahead w n) blk off (zs.mergeSort fun x y => decide (x ≤ y)).toArray) os) :
    PrimOk P false f primSort := by
  refine ⟨hc, fun as h r h' e ρ I w us hs hv => ?_, fun as h r h' hw e => ?_, fun as h r h' e => ?_, fun q => by cases q⟩
  · unfold primSort at e
    split at e
    · cases e
      obtain ⟨u, rfl, h2⟩ := VRL_sing hv
      cases h2
      refine (h0 _ _ w).mono fun e w' ⟨he, hw⟩ => ?_
      subst he hw
      exact ⟨ρ, I, _, rfl, St.refl, hs, .tup rfl fun j hj => absurd hj (by simp)⟩
    · rename_i z i o n
      obtain ⟨u, rfl, h2⟩ := VRL_sing hv
      split at e
      · rename_i hn
        subst hn
        cases e
        have hq : ∃ p cap, u = .slice p 0 cap := by cases h2 <;> exact ⟨_, _, rfl⟩
        obtain ⟨p, cap, rfl⟩ := hq
        refine (h0 _ _ w).mono fun e w' ⟨he, hw⟩ => ?_
        subst he hw
        exact ⟨ρ, I, _, rfl, St.refl, hs, .tup rfl fun j hj => absurd hj (by simp)⟩
      · rename_i hn
        split at e
        case isFalse => cases e
        split at e
        · rename_i cs hrow
          split at e
          · rename_i zs hz
            split at e
            · rename_i hcnd
              obtain ⟨rfl, hlen, hlim⟩ := hcnd
              cases e
              have hblk := row_some hrow
              have hzs := ints_eq hz
              have hzl : zs.length = n := by
                have := congrArg List.length hzs
                simp at this
                omega
              cases h2 with
              | rf0 => exact absurd rfl hn
              | rf hρ hnc hw hcs =>
                rename_i b o' c' C T fz
                obtain ⟨b2, o2, g2, C2, T2, g3, g4, g5, g6⟩ := hs.live i _ hblk
                rw [hρ] at g2
                cases g2
                rw [hw] at g3
                cases g3
                have hb : b < w.heap.size := by
                  rcases Nat.lt_or_ge b w.heap.size with q | q
                  · exact q
                  · rw [Array.getElem?_eq_none q] at hw; cases hw
                have hcell : ∀ j, j < zs.length → C[o' + o + j]? = some (.int .i64 (zs.getD j 0)) := by
                  intro j hj
                  have hoj : o + j < cs.length := by omega
                  have q := g5 (o + j) hoj
                  have e1 : cs[o + j] = .int .i64 (zs.getD j 0) := by
                    have e2 : ((cs.drop o).take n)[j]? = (zs.map fun m => PV.int .i64 m)[j]? := by rw [← hzs]
                    rw [List.getElem?_take, if_pos (by omega), List.getElem?_drop, List.getElem?_map, List.getElem?_eq_getElem hoj, List.getElem?_eq_getElem hj] at e2
                    rw [List.getD_eq_getElem?_getD, List.getElem?_eq_getElem hj]
                    simpa using e2
                  rw [e1] at q
                  have hsz : o' + (o + j) < C.size := by omega
                  rw [Array.getD_eq_getD_getElem?, Array.getElem?_eq_getElem hsz] at q
                  rw [Nat.add_assoc, Array.getElem?_eq_getElem hsz]
                  simp only [Option.getD_some] at q
                  generalize hx : C[o' + (o + j)] = x at q
                  cases q
                  rfl
                have hH : Holds (Value.int .i64) w b (o' + o) zs.toArray := by
                  intro j hj
                  have hj' : j < zs.length := by simpa using hj
                  refine ⟨?_, ?_⟩
                  · unfold World.cell?
                    simp only [hw]
                    rw [if_neg (by simp), hcell j hj', List.getD_eq_getElem?_getD, List.getElem?_eq_getElem hj']
                    simp [hj']
                  · unfold World.frozen?
                    simp only [hw]
                    simp
                rw [← hzl]
                refine (h1 b (o' + o) c' zs w hH hb (by omega)).mono fun e w' ⟨he, m, os, hw'⟩ => ?_
                subst he
                rw [sortI_eq] at hw'
                have hlS : (sortI zs).length = n := by rw [sortI_length, hzl]
                -- the write
                have hL : w.heap.modify b (onCells (putCells (Value.int .i64) (o' + o) (sortI zs).toArray)) = (putRow (Value.int .i64) (Sort.ahead w m) b (o' + o) (sortI zs).toArray).heap := rfl
                have hbl : (putRow (Value.int .i64) (Sort.ahead w m) b (o' + o) (sortI zs).toArray).heap[b]? = some (.cells (putCells (Value.int .i64) (o' + o) (sortI zs).toArray C) T (0, 0)) := by
                  rw [← hL, Array.getElem?_modify, if_pos rfl, hw]; rfl
                have hother : ∀ k, k ≠ b → (putRow (Value.int .i64) (Sort.ahead w m) b (o' + o) (sortI zs).toArray).heap[k]? = w.heap[k]? := by
                  intro k hk
                  rw [← hL, Array.getElem?_modify, if_neg (fun e => hk e.symm)]
                have hspl : (splice cs o ((sortI zs).map fun m => PV.int .i64 m)).length = cs.length := by
                  simp only [splice, List.length_append, List.length_take, List.length_drop, List.length_map, hlS]; omega
                obtain ⟨hs1, st1⟩ := hs.wrote (B := .cells (splice cs o ((sortI zs).map fun m => .int .i64 m))) (w' := putRow (Value.int .i64) (Sort.ahead w m) b (o' + o) (sortI zs).toArray) (by rw [hblk]; simp) hρ rfl rfl rfl
                  (by simp [Sort.ahead]) hother
                  (fun C' T' f' e => by rw [hw] at e; cases e; exact ⟨_, _, hbl, by simp [putCells]⟩) (.cells hw)
                  (fun st => by
                    refine ⟨_, T, hbl, ?_, fun j hj => ?_, fun x hx => ?_⟩
                    · rw [hspl]; simp [putCells]; exact g4
                    · have hj2 : j < cs.length := by rw [← hspl]; exact hj
                      have hjC : o' + j < C.size := by omega
                      rw [Array.getD_eq_getD_getElem?]
                      simp only [putCells, Array.getElem?_mapIdx, Array.getElem?_eq_getElem hjC, Option.map_some, Option.getD_some, List.size_toArray, hlS]
                      by_cases hin : o ≤ j ∧ j < o + n
                      · rw [if_pos (by omega)]
                        have e1 : (splice cs o ((sortI zs).map fun m => PV.int .i64 m))[j] = .int .i64 ((sortI zs)[j - o]'(by omega)) := by
                          apply Option.some.inj
                          rw [← List.getElem?_eq_getElem hj]
                          simp only [splice, List.append_assoc]
                          rw [List.getElem?_append_right (by simp; omega), List.getElem?_append_left (by simp [hlS]; omega), List.getElem?_map]
                          simp only [List.length_take]
                          rw [show min o cs.length = o by omega, List.getElem?_eq_getElem (show j - o < (sortI zs).length by omega)]
                          rfl
                        rw [e1]
                        have e2 : (sortI zs).toArray[o' + j - (o' + o)]! = (sortI zs)[j - o]'(by omega) := by
                          have : o' + j - (o' + o) = j - o := by omega
                          rw [this, getElem!_pos _ _ (by simp; omega)]
                          simp
                        rw [e2]
                        exact .int _ _
                      · rw [if_neg (by omega)]
                        have e1 : (splice cs o ((sortI zs).map fun m => PV.int .i64 m))[j] = cs[j] := by
                          apply Option.some.inj
                          rw [← List.getElem?_eq_getElem hj, ← List.getElem?_eq_getElem hj2]
                          simp only [splice, List.append_assoc]
                          by_cases hjo : j < o
                          · rw [List.getElem?_append_left (by simp; omega), List.getElem?_take, if_pos hjo]
                          · rw [List.getElem?_append_right (by simp; omega), List.getElem?_append_right (by simp [hlS]; omega), List.getElem?_drop]
                            congr 1
                            simp only [List.length_take, List.length_map, hlS]
                            omega
                        rw [e1]
                        have q := g5 j hj2
                        rw [Array.getD_eq_getD_getElem?, Array.getElem?_eq_getElem hjC] at q
                        exact q.step hs st
                    · simp only [splice, List.append_assoc, List.mem_append] at hx
                      rcases hx with hx | hx | hx
                      · exact g6 x (List.mem_of_mem_take hx)
                      · obtain ⟨y, _, rfl⟩ := List.mem_map.1 hx; rfl
                      · exact g6 x (List.mem_of_mem_drop hx))
                obtain ⟨hs2, st2⟩ := hs1.grow (w' := w') (I' := I) (by rw [hw']; rfl) (by rw [hw']; rfl) (by rw [hw']; rfl) (by rw [hw', size_grow]; omega) (fun k hk => by rw [hw']; exact heap_grow_old _ _ hk) (fun _ q => q) (fun _ q => .inl q) (fun k q => by
                  have := hs1.inI k q
                  rw [hw', size_grow]; omega)
                exact ⟨ρ, I, _, rfl, st1.trans st2, hs2, .tup rfl fun j hj => absurd hj (by simp)⟩
            · cases e
          · cases e
        · cases e
    · cases e
  · unfold primSort at e
    have hset : ∀ (h : AH) (i : Nat) (B : Blk) (cs : List PV), WFH h → h.row i = some cs → WFH (h.set i B) := by
      intro h i B cs hw hr k hk
      rw [AH.set_blk]
      split
      · rename_i hki
        subst hki
        have := hw k hk
        rw [row_some hr] at this
        cases this
      · exact hw k hk
    split at e
    · cases e; exact hw
    · split at e
      · cases e; exact hw
      · split at e
        case isFalse => cases e
        split at e
        · rename_i cs hr
          split at e
          · split at e
            · cases e; exact hset _ _ _ _ hw hr
            · cases e
          · cases e
        · cases e
    · cases e
  · unfold primSort at e
    have r0 : KL h h := ⟨rfl, Nat.le_refl _, fun _ _ _ => rfl⟩
    split at e
    · cases e; exact r0
    · split at e
      · cases e; exact r0
      · split at e
        case isFalse => cases e
        rename_i hlo
        split at e
        · rename_i cs hr
          split at e
          · split at e
            · cases e; exact ⟨rfl, Nat.le_refl _, fun hl i hi => by rw [AH.set_blk, if_neg (by omega)]⟩
            · cases e
          · cases e
        · cases e
    · cases e
end
end Go.Ev

/- Library functions by their contracts: copies of slices. -/
set_option linter.unusedVariables false
set_option linter.unusedSimpArgs false
namespace Go.Ev
variable [LoopSpec]

def cloneCode (z b : Nat) : CFun := ⟨false, false, (.seq (.reg [⟨(some 2), (.mov (.c .emp)), none⟩]) (.seq (.seq (.reg [⟨(some 3), (.mov (.t 0)), none⟩, ⟨(some 4), (.isnil false 1 (.t 3)), none⟩]) (.cond (.t 4) (.seq (.reg [⟨(some 2), (.mov (.c .emp)), none⟩]) .ret) .skip)) (.seq (.reg [⟨(some 5), (.blit 0 [] []), none⟩, ⟨(some 6), (.mov (.t 0)), none⟩, ⟨(some 7), (.app z b (.t 5) (.t 6)), none⟩, ⟨(some 2), (.mov (.t 7)), none⟩]) .ret))), [(.t 2)]⟩

/-- A copy that is the caller's own. -/
def primCloneO (z b : Nat) (as : List PV) (h : AH) : Option (PV × AH) :=
  match as with
  | [x] => match src h z x with
    | some (0, _) => some (.emp, h)
    | some (n + 1, ys) => if 0 < z ∧ roomOk (n + 1) (b + 1) = true then some (.rf z h.nx 0 (n + 1), h.push (.cells ys)) else none
    | none => none
  | _ => none

def flat : PV → Bool
  | .int _ _ | .bool _ | .str _ => true
  | _ => false

/-- A copy that is immutable. -/
def primCloneI (z b : Nat) (as : List PV) (h : AH) : Option (PV × AH) :=
  match as with
  | [x] => match snap h snapDepth x with
    | some (.sl 0 _) => some (.sl 0 [], h)
    | some (.sl (n + 1) ys) => if 0 < z ∧ ys.length = (n + 1) * z ∧ roomOk (n + 1) (b + 1) = true ∧ ys.all flat = true then some (.sl (n + 1) ys, h) else none
    | _ => none
  | _ => none

section
variable {P : Program} {f : Nat} {z b : Nat}

omit [LoopSpec] in
theorem src_notnil {h : AH} {x : PV} {n : Nat} {ys : List PV} (hz : 0 < z) (e : src h z x = some (n + 1, ys)) : isNilK 1 x = some false := by
  cases x with
  | sl m cs =>
    simp only [src] at e
    split at e
    · rename_i hl
      cases e
      cases ys with
      | nil =>
        exfalso
        have : 0 < (n + 1) * z := Nat.mul_pos (Nat.succ_pos _) hz
        simp at hl
        omega
      | cons a r => rfl
    · cases e
  | rf z' i o m =>
    simp only [src] at e
    split at e
    · split at e
      · cases e; rfl
      · cases e
    · cases e
  | _ => simp [src] at e

omit [LoopSpec] in
theorem clone_ev {T : Nat → Option Fun} {h : AH} {x : PV} {n : Nat} {ys : List PV} (hT : T f = some (.code (cloneCode z b))) (hz : 0 < z) (hr : roomOk (n + 1) (b + 1) = true) (e : src h z x = some (n + 1, ys)) :
    CE T f [x] h (.rf z h.nx 0 (n + 1)) (h.push (.cells ys)) := by
  refine CE_shared hT rfl rfl ?_
  have hn := src_notnil hz e
  simp only [cloneCode, WC_skip, WC_exit, WC_ret, WC_reg, WC_seq, WC_cond, WC_block, WO_nil, WO_cons, W1_call, W1_mov, W1_nilchk, W1_pick, W1_alloc, W1_box, W1_boxi, W1_blit, W1_clear, W1_bslice, W1_build, W1_load, W1_store, W1_bin, W1_eqb, W1_eqs, W1_isnil, W1_un, W1_conv, W1_str, W1_mkfn, W1_mkmap, W1_mkslice, W1_slice, W1_slstr, W1_fld, W1_fldv, W1_idx, W1_idxp, W1_idxv, W1_idxs, W1_lkp, W1_upd, W1_ext, W1_len, W1_app, W1_minmax, W1_del, thenQ_nrm, thenQ_exit, thenQ_ret, blockQ_nrm, blockQ_exit, blockQ_ret, condQ_bool, condQ_true, condQ_false, opQ_some, evOp, evOpB, barOk, target, lowOk, wants, Opd.val, Fr.put, keep, initFr, hn]
  simp [fillP, evApp, evAppL, e, hn, hr, resOf, resAll, resAt, opQ, condQ]

omit [LoopSpec] in
theorem src_zero {h : AH} {x : PV} {ys : List PV} {ρ : Nat → Option (Nat × Nat)} {I : Nat → Prop} {w : World} {u : Value} (e : src h z x = some (0, ys)) (hv : VR ρ I w u x) : ∃ A c, u = .slice A 0 c := by
  cases x with
  | sl m cs =>
    simp only [src] at e
    split at e
    · cases e
      cases hv
      exact ⟨_, _, rfl⟩
    · cases e
  | emp => cases hv; exact ⟨_, _, rfl⟩
  | rf z' i o m =>
    simp only [src] at e
    split at e
    · split at e
      · cases e
        cases hv
        · exact ⟨_, _, rfl⟩
        · exact ⟨_, _, rfl⟩
      · cases e
    · cases e
  | _ => simp [src] at e

theorem clone_calls {v : Nat} {x : PV} {h : AH} {n : Nat} {ys : List PV} {ρ : Nat → Option (Nat × Nat)} {I : Nat → Prop} {w : World} {us : Array Value} (hvf : rl v = f) (hlt : f < vb)
    (hcomp : compFn P (fun _ => false) (fun _ _ => 0) f = some (cloneCode z b)) (hz : 0 < z) (hr : roomOk (n + 1) (b + 1) = true) (e : src h z x = some (n + 1, ys)) (hs : SR ρ I h w) (hv : VRL ρ I w us [x]) :
    Callable P f ∧ Calls P f us w (Post ρ I h w (.rf z h.nx 0 (n + 1)) (h.push (.cells ys))) := by
  have ht : TOk P (fun _ => false) (fun k => if k = f then some (.code (cloneCode z b)) else none) := by
    have hfy : f < yb := Nat.lt_trans hlt (by decide)
    refine ⟨fun k c hk => ?_, fun k hk => ?_, fun hg => ?_, fun k p g hk => ?_⟩
    · split at hk
      · rename_i q; subst q; cases hk; exact ⟨_, hcomp⟩
      · cases hk
    · have : k ≠ f := fun e => Nat.lt_irrefl _ (Nat.lt_of_lt_of_le (e ▸ hfy) hk)
      simp [this]
    · have : lpb ≠ f := fun e => absurd (e ▸ hlt) (by decide)
      simp [gate, this] at hg
    · split at hk
      · cases hk
      · cases hk
  obtain ⟨m, hm⟩ := clone_ev (T := fun k => if k = f then some (.code (cloneCode z b)) else none) (f := f) (by simp) hz hr e
  have hrl : rl f = f := Nat.mod_eq_of_lt hlt
  obtain ⟨k1, k2⟩ := (callOk ht m).fn f [x] h _ _ (Nat.lt_trans hlt (by decide)) hm
  rw [hrl] at k1 k2
  exact ⟨k1, k2 ρ I w us hs hv⟩

omit [LoopSpec] in
theorem callable_of {pu : Nat → Bool} {ow : Nat → Nat → Nat} {c : CFun} (hlt : f < vb) (hcomp : compFn P pu ow f = some c) : Callable P f := by
  obtain ⟨fn, code, h1, h2, h3, _⟩ := compFn_inv hcomp
  have hrl : rl f = f := Nat.mod_eq_of_lt hlt
  rw [hrl] at h1
  exact ⟨fn, h1, h3, by rw [h2]; rfl⟩

theorem primCloneO_ok {v : Nat} (hvf : rl v = f) (hlt : f < vb) (hcomp : compFn P (fun _ => false) (fun _ _ => 0) f = some (cloneCode z b))
    (h0 : ∀ (A : Option Addr) (c : Nat) (w : World), Calls P f #[.slice A 0 c] w fun e w' => RowKit.Below w.heap.size w w' ∧ ∃ A', e = .returned (.slice A' 0 0)) : PrimOk P false v (primCloneO z b) := by
  refine ⟨by rw [hvf]; exact callable_of hlt hcomp, fun as h r h' e ρ I w us hs hv => ?_, fun as h r h' hw e => ?_, fun as h r h' e => ?_, fun q => by cases q⟩
  · rw [hvf]
    unfold primCloneO at e
    split at e
    · rename_i x
      split at e
      · rename_i ys hsrc
        cases e
        obtain ⟨u, rfl, h2⟩ := VRL_sing hv
        obtain ⟨A, c, rfl⟩ := src_zero hsrc h2
        refine (h0 A c w).mono fun e w' ⟨hb, A', he⟩ => ?_
        subst he
        obtain ⟨g1, g2⟩ := hs.grow (w' := w') (I' := I) hb.os hb.tape hb.output hb.size hb.block (fun _ q => q) (fun _ q => .inl q) (fun k q => Nat.lt_of_lt_of_le (hs.inI k q) hb.size)
        exact ⟨ρ, I, _, rfl, g2, g1, .emp⟩
      · rename_i n ys hsrc
        split at e
        · rename_i hc
          cases e
          exact (clone_calls hvf hlt hcomp hc.1 hc.2 hsrc hs hv).2
        · cases e
      · cases e
    · cases e
  · unfold primCloneO at e
    split at e
    · split at e
      · cases e; exact hw
      · split at e
        · cases e; exact hw.push _
        · cases e
      · cases e
    · cases e
  · unfold primCloneO at e
    split at e
    · split at e
      · cases e; exact ⟨rfl, Nat.le_refl _, fun _ _ _ => rfl⟩
      · split at e
        · cases e; exact ⟨rfl, Nat.le_succ _, fun hl i hi => by rw [AH.push_blk, if_neg (by omega)]⟩
        · cases e
      · cases e
    · cases e

omit [LoopSpec] in
theorem primCloneO_ext (as : List PV) (h : AH) (r : PV) (h' : AH) (hw : ∀ i, h.nx ≤ i → h.blk i = none) (e : primCloneO z b as h = some (r, h')) : h.le h' := by
  unfold primCloneO at e
  split at e
  · split at e
    · cases e; exact fun i B q => q
    · split at e
      · cases e; exact push_le h _ (hw _ (Nat.le_refl _))
      · cases e
    · cases e
  · cases e

omit [LoopSpec] in
theorem src_le {h h' : AH} {x : PV} {r : Nat × List PV} (hl : h.le h') (e : src h z x = some r) : src h' z x = some r := by
  cases x with
  | rf z' i o n =>
    simp only [src] at e ⊢
    cases hr : h.row i with
    | none => simp [hr] at e
    | some cs => simp only [hr] at e; rw [row_le hl hr]; exact e
  | _ => exact e

theorem src_mem {h : AH} {x : PV} {n : Nat} {ys : List PV} {ρ : Nat → Option (Nat × Nat)} {I : Nat → Prop} {w : World} (hs : SR ρ I h w) (e : src h z x = some (n, ys)) : ys.length = n * z := by
  cases x with
  | sl m cs =>
    simp only [src] at e
    split at e
    · rename_i hl; cases e; exact hl
    · cases e
  | emp => simp only [src] at e; cases e; simp
  | rf z' i o m =>
    simp only [src] at e
    split at e
    · split at e
      · rename_i cs _ hl; cases e; simp; omega
      · cases e
    · cases e
  | _ => simp [src] at e

end
end Go.Ev

/- Library functions by their contracts: immutable copies of slices. -/
set_option linter.unusedVariables false
set_option linter.unusedSimpArgs false
namespace Go.Ev
variable [LoopSpec]
section
variable {P : Program} {f : Nat} {z b : Nat}

omit [LoopSpec] in
theorem snap_flat {h : AH} {d : Nat} {v : PV} (hf : flat v = true) : snap h (d + 1) v = some v := by
  cases v <;> first | rfl | simp [flat] at hf

omit [LoopSpec] in
theorem snap_flats {h : AH} {d : Nat} : ∀ {vs : List PV}, vs.all flat = true → allO (snap h (d + 1)) vs = some vs
  | [], _ => rfl
  | v :: r, hf => by
    simp only [List.all_cons, Bool.and_eq_true] at hf
    simp only [allO, snap_flat hf.1, snap_flats hf.2]

omit [LoopSpec] in
theorem snap_zero {h : AH} {d : Nat} {x : PV} {ys : List PV} {ρ : Nat → Option (Nat × Nat)} {I : Nat → Prop} {w : World} {u : Value} (e : snap h (d + 1) x = some (.sl 0 ys)) (hv : VR ρ I w u x) : ∃ A c, u = .slice A 0 c := by
  cases x with
  | sl m cs =>
    simp only [snap, Option.map_eq_some_iff] at e
    obtain ⟨_, _, e⟩ := e
    cases e
    cases hv
    exact ⟨_, _, rfl⟩
  | emp => cases hv; exact ⟨_, _, rfl⟩
  | rf z' i o m =>
    simp only [snap] at e
    split at e
    · split at e
      · simp only [Option.map_eq_some_iff] at e
        obtain ⟨_, _, e⟩ := e
        cases e
        cases hv
        · exact ⟨_, _, rfl⟩
        · exact ⟨_, _, rfl⟩
      · cases e
    · cases e
  | pt i o =>
    simp only [snap] at e
    split at e
    · simp only [Option.map_eq_some_iff] at e; obtain ⟨_, _, e⟩ := e; cases e
    · cases e
  | fn f a c =>
    simp only [snap] at e
    split at e
    · cases e
    · cases e
  | pi cs => simp only [snap, Option.map_eq_some_iff] at e; obtain ⟨_, _, e⟩ := e; cases e
  | agg cs => simp only [snap, Option.map_eq_some_iff] at e; obtain ⟨_, _, e⟩ := e; cases e
  | tup cs => simp only [snap, Option.map_eq_some_iff] at e; obtain ⟨_, _, e⟩ := e; cases e
  | _ => simp [snap] at e

omit [LoopSpec] in
theorem noImm_flats {h : AH} {d : Nat} : ∀ {vs : List PV}, vs.all flat = true → vs.all (noImm h (d + 1)) = true
  | [], _ => rfl
  | v :: r, hf => by
    simp only [List.all_cons, Bool.and_eq_true] at hf ⊢
    refine ⟨?_, noImm_flats hf.2⟩
    have := hf.1
    cases v <;> first | rfl | simp [flat] at this

omit [LoopSpec] in
theorem snap_own {d : Nat} {n : Nat} {ys : List PV} (hl : ys.length = (n + 1) * z) (hf : ys.all flat = true) :
    snap (AH.zero.push (.cells ys)) (d + 2) (.rf z AH.zero.nx 0 (n + 1)) = some (.sl (n + 1) ys) ∧ noImm (AH.zero.push (.cells ys)) (d + 2) (.rf z AH.zero.nx 0 (n + 1)) = true := by
  have hrow : (AH.zero.push (.cells ys)).row AH.zero.nx = some ys := rfl
  have hfl : allO (snap (AH.zero.push (.cells ys)) (d + 1)) ys = some ys := snap_flats hf
  have hni : ys.all (noImm (AH.zero.push (.cells ys)) (d + 1)) = true := noImm_flats hf
  obtain ⟨e, he⟩ : ∃ e, e = d + 1 := ⟨_, rfl⟩
  rw [show d + 2 = e + 1 by omega]
  rw [← he] at hfl hni
  constructor
  · simp only [snap, hrow, Nat.zero_add, ← hl, Nat.le_refl, if_true, List.drop_zero, List.take_length, hfl, Option.map_some]
  · simp only [noImm, hrow, ← hl, List.drop_zero, List.take_length, hni]

omit [LoopSpec] in
theorem clone_evI {T : Nat → Option Fun} {h : AH} {x : PV} {n : Nat} {ys : List PV} (hT : T f = some (.code { cloneCode z b with pure := true })) (hz : 0 < z) (hr : roomOk (n + 1) (b + 1) = true) (hl : ys.length = (n + 1) * z) (hf : ys.all flat = true)
    (hsn : snap h snapDepth x = some (.sl (n + 1) ys)) : CE T f [x] h (.sl (n + 1) ys) h := by
  have e2 : src AH.zero z (.sl (n + 1) ys) = some (n + 1, ys) := by simp only [src, if_pos hl]
  have hn := src_notnil hz e2
  refine CE_pure hT rfl (as' := [.sl (n + 1) ys]) (by simp only [allO, hsn]) ?_
  obtain ⟨hsnap, hni⟩ : snap (AH.zero.push (.cells ys)) snapDepth (.rf z AH.zero.nx 0 (n + 1)) = some (.sl (n + 1) ys) ∧ noImm (AH.zero.push (.cells ys)) snapDepth (.rf z AH.zero.nx 0 (n + 1)) = true := by
    rw [show snapDepth = 10 + 2 from rfl]
    exact snap_own hl hf
  have happ : ∀ h0 : AH, evApp h0 z b .emp (.sl (n + 1) ys) = some (.rf z h0.nx 0 (n + 1), h0.push (.cells ys)) := fun h0 => by
    have e3 : src h0 z (.sl (n + 1) ys) = some (n + 1, ys) := by simp only [src, if_pos hl]
    simp only [evApp, evAppL, e3, if_pos hr]
  refine WC.imp (Q := fun ex s' h1 => ex = .ret ∧ s' 2 = .rf z AH.zero.nx 0 (n + 1) ∧ h1 = AH.zero.push (.cells ys)) ?_ ?_
  · clear hsnap hni hsn
    generalize AH.zero = g at e2
    simp only [cloneCode, WC_skip, WC_exit, WC_ret, WC_reg, WC_seq, WC_cond, WC_block, WO_nil, WO_cons, W1_call, W1_mov, W1_nilchk, W1_pick, W1_alloc, W1_box, W1_boxi, W1_blit, W1_clear, W1_bslice, W1_build, W1_load, W1_store, W1_bin, W1_eqb, W1_eqs, W1_isnil, W1_un, W1_conv, W1_str, W1_mkfn, W1_mkmap, W1_mkslice, W1_slice, W1_slstr, W1_fld, W1_fldv, W1_idx, W1_idxp, W1_idxv, W1_idxs, W1_lkp, W1_upd, W1_ext, W1_len, W1_app, W1_minmax, W1_del, thenQ_nrm, thenQ_exit, thenQ_ret, blockQ_nrm, blockQ_exit, blockQ_ret, condQ_bool, condQ_true, condQ_false, opQ_some, evOp, evOpB, barOk, target, lowOk, wants, Opd.val, Fr.put, keep, initFr, hn]
    simp [fillP, happ, hn, opQ, condQ]
  · rintro ex s' h1 ⟨rfl, h2, rfl⟩
    refine ⟨.inr rfl, _, ?_, hsnap, .inr hni⟩
    show resOf [.t 2] s' _ = _
    simp [resOf, resAll, resAt, h2]

theorem primCloneI_ok {v : Nat} (hvf : rl v = f) (hlt : f < vb) (hcomp : compFn P (fun k => k == f) (fun _ _ => 0) f = some { cloneCode z b with pure := true })
    (h0 : ∀ (A : Option Addr) (c : Nat) (w : World), Calls P f #[.slice A 0 c] w fun e w' => RowKit.Below w.heap.size w w' ∧ ∃ A', e = .returned (.slice A' 0 0)) : PrimOk P true v (primCloneI z b) := by
  have ht : TOk P (fun k => k == f) (fun k => if k = f then some (.code { cloneCode z b with pure := true }) else none) := by
    have hfy : f < yb := Nat.lt_trans hlt (by decide)
    refine ⟨fun k c hk => ?_, fun k hk => ?_, fun hg => ?_, fun k p g hk => ?_⟩
    · split at hk
      · rename_i q; subst q; cases hk; exact ⟨_, hcomp⟩
      · cases hk
    · have : k ≠ f := fun e => Nat.lt_irrefl _ (Nat.lt_of_lt_of_le (e ▸ hfy) hk)
      simp [this]
    · have : lpb ≠ f := fun e => absurd (e ▸ hlt) (by decide)
      simp [gate, this] at hg
    · split at hk
      · cases hk
      · cases hk
  have hrl : rl f = f := Nat.mod_eq_of_lt hlt
  refine ⟨by rw [hvf]; exact callable_of hlt hcomp, fun as h r h' e ρ I w us hs hv => ?_, fun as h r h' hw e => ?_, fun as h r h' e => ?_, fun _ as h r h' e => ?_⟩
  · rw [hvf]
    unfold primCloneI at e
    split at e
    · rename_i x
      split at e
      · rename_i ys hsrc
        cases e
        obtain ⟨u, rfl, h2⟩ := VRL_sing hv
        obtain ⟨A, c, rfl⟩ := snap_zero (d := 11) hsrc h2
        refine (h0 A c w).mono fun e w' ⟨hb, A', he⟩ => ?_
        subst he
        obtain ⟨g1, g2⟩ := hs.grow (w' := w') (I' := I) hb.os hb.tape hb.output hb.size hb.block (fun _ q => q) (fun _ q => .inl q) (fun k q => Nat.lt_of_lt_of_le (hs.inI k q) hb.size)
        exact ⟨ρ, I, _, rfl, g2, g1, .sl (fun _ => undef) (Nat.le_refl 0) (fun h => absurd rfl h) (fun j hj => absurd hj (by simp)) (by simp)⟩
      · rename_i n ys hsrc
        split at e
        · rename_i hc
          cases e
          obtain ⟨m, hm⟩ := clone_evI (T := fun k => if k = f then some (.code { cloneCode z b with pure := true }) else none) (f := f) (by simp) hc.1 hc.2.2.1 hc.2.1 hc.2.2.2 hsrc
          have := ((callOk ht m).fn f [x] h _ _ (Nat.lt_trans hlt (by decide)) hm).2
          rw [hrl] at this
          exact this ρ I w us hs hv
        · cases e
      · cases e
    · cases e
  · unfold primCloneI at e
    split at e
    · split at e
      · cases e; exact hw
      · split at e
        · cases e; exact hw
        · cases e
      · cases e
    · cases e
  · unfold primCloneI at e
    have r0 : KL h h := ⟨rfl, Nat.le_refl _, fun _ _ _ => rfl⟩
    split at e
    · split at e
      · cases e; exact r0
      · split at e
        · cases e; exact r0
        · cases e
      · cases e
    · cases e
  · unfold primCloneI at e ⊢
    split at e
    · split at e
      · rename_i ys hsrc
        cases e
        exact ⟨rfl, fun h2 hl => by simp only [snap_le hl snapDepth _ _ hsrc]⟩
      · rename_i n ys hsrc
        split at e
        · rename_i hc
          cases e
          exact ⟨rfl, fun h2 hl => by simp only [snap_le hl snapDepth _ _ hsrc, if_pos hc]⟩
        · cases e
      · cases e
    · cases e
end
end Go.Ev

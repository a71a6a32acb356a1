/- Panics: code that ends in one, by the abstract machine; nothing here is assumed of a program. -/
import Derived.Test.YtkaabknkabdfpaaGreatDoorLibB
set_option linter.unusedVariables false
set_option linter.unusedSimpArgs false
namespace Go.Ev

/-- An operation that panics: the value, the heap. -/
def opP (callP : Nat → List PV → AH → Option (PV × AH)) (o : COp) (s : Fr) (h : AH) : Option (PV × AH) :=
  match o with
  | .call f as | .callS _ f as => callP f (as.map (Opd.val s)) h
  | .callv f as => match f.val s with
    | .fn g fs cs => if g < vb then callP g (fs ++ as.map (Opd.val s) ++ cs) h else .none
    | _ => .none
  | .pan x => match x.val s with
    | .ifc t v => some (.ifc t v, h)
    | _ => .none
  | _ => .none

/-- Operations, up to the one that panics: its place, the value, the slots, the heap. -/
def evOpsP (call callP : Nat → List PV → AH → Option (PV × AH)) : List COper → Nat → Fr → AH → Option (Nat × PV × Fr × AH)
  | [], _, _, _ => .none
  | o :: r, k, s, h =>
    if wants o.guard s then match evOpB call o.op s h with
      | some (v, h') => evOpsP call callP r (k + 1) (Fr.put s o.dst v) h'
      | .none => (opP callP o.op s h).map fun p => (k, p.1, s, p.2)
    else evOpsP call callP r (k + 1) (Fr.put s o.dst .undef) h

/-- The translation of a region that draws its order. -/
def pickCops (pu : Nat → Bool) (ops : List Oper) (cops : List COper) : Option (List COper) :=
  if drawOk pu ops cops then some cops
  else if drawOk pu ops (sepCops pu ops cops) then some (sepCops pu ops cops)
  else .none

/-- A region that draws its order ends in the panic of one operation, in every order: what it does not wait for does nothing to the heap, and what comes behind waits for it. -/
def panAt (pu : Nat → Bool) (ops : List Oper) (cops : List COper) (k : Nat) : Bool :=
  let B := befs [] (ops.map edges)
  (List.range cops.length).all fun j =>
    if j < k then (B.getD k []).contains j || (match cops[j]?, cops[k]? with | some x, some y => (cls pu x.op == 0 || cls pu x.op == 1) && notIn x.dst y.args | _, _ => false)
    else j == k || (B.getD j []).contains k

section
variable (P : Program) (pu : Nat → Bool) (ow : Nat → Nat → Nat) (T : Nat → Option Fun)

def callPW (run : (Nat → Nat) → Nat → Code → Fr → AH → Option (PV × Option Fr × AH)) (f : Nat) (as : List PV) (h : AH) : Option (PV × AH) :=
  match T f with
  | some (.code c) => if (c.pure || c.ext) = true then .none else match P.funcs[rl f]? with
    | some fn => match fn.body with
      | some code => (run (ow f) fn.ntmps code (initFr as) h).map fun r => (r.1, r.2.2)
      | .none => .none
    | .none => .none
  | _ => .none

/-- Code that ends in a panic: the value, the slots (where they are known), the heap. -/
def evP : Nat → (Nat → Nat) → Nat → Code → Fr → AH → Option (PV × Option Fr × AH)
  | 0, _, _, _, _, _ => .none
  | n + 1, of, nt, c, s, h => match c with
    | .region _ ops draw => match compOpers P of nt ops ops.toList with
      | some cops =>
        if draw = false then (evOpsP (callW T (evC T n)) (callPW P ow T (evP n)) cops 0 s h).map fun r => (r.2.1, some r.2.2.1, r.2.2.2)
        else if P.follows .mixedOrders = true then match pickCops pu ops.toList cops with
          | some cops' => match evOpsP (callW T (evC T n)) (callPW P ow T (evP n)) cops' 0 s h with
            | some (k, x, _, h') => if panAt pu ops.toList cops' k = true then some (x, .none, h') else .none
            | .none => .none
          | .none => .none
        else .none
      | .none => .none
    | .seq a b => match evC T n (compCode P pu of nt a) s h with
      | some (.nrm, s', h') => evP n of nt b s' h'
      | some _ => .none
      | .none => evP n of nt a s h
    | .cond c a b => match opd c with
      | some C => match C.val s with
        | .bool true => evP n of nt a s h
        | .bool false => evP n of nt b s h
        | _ => .none
      | .none => .none
    | .scope a => evP n of nt a s h
    | .block _ a => evP n of nt a s h
    | .loop a => match evC T n (compCode P pu of nt a) s h with
      | some (.nrm, s', h') => evP n of nt (.loop a) s' h'
      | some _ => .none
      | .none => evP n of nt a s h
    | _ => .none
end

variable [LoopSpec]
section
variable {P : Program} {pu : Nat → Bool} {ow : Nat → Nat → Nat} {T : Nat → Option Fun} {call callP : Nat → List PV → AH → Option (PV × AH)} {ρ : Nat → Option (Nat × Nat)} {I : Nat → Prop} {h h' : AH} {w : World} {nt : Nat} {Bo : Nat × List Deferred × Bool} {a : Act} {s s' : Fr} {u : Value} {v x : PV}

/-- What a call that panics leaves. -/
def PostP (ρ : Nat → Option (Nat × Nat)) (I : Nat → Prop) (h : AH) (w : World) (x : PV) (h' : AH) : Ending → World → Prop :=
  fun e w' => ∃ ρ' I' u, e = .panicked [{ v := u, recovered := false }] ∧ St ρ I h w ρ' I' h' w' ∧ SR ρ' I' h' w' ∧ VR ρ' I' w' u x

def PanOk (P : Program) (callP : Nat → List PV → AH → Option (PV × AH)) : Prop :=
  ∀ f as h x h', callP f as h = some (x, h') → f < yb ∧ Callable P (rl f) ∧ ∀ ρ I w us, SR ρ I h w → VRL ρ I w us as → Calls P (rl f) us w (PostP ρ I h w x h')

/-- Where a panic leaves a statement. -/
def PanQ (Q : Exit → Act → World → Prop) (ρ : Nat → Option (Nat × Nat)) (I : Nat → Prop) (h : AH) (w : World) (Bo : Nat × List Deferred × Bool) (nt : Nat) (x : PV) (so : Option Fr) (h' : AH) : Prop :=
  ∀ a' w' ρ' I' u, St ρ I h w ρ' I' h' w' → SR ρ' I' h' w' → DfR Bo I' w' a'.defers → (∀ s1, so = some s1 → FR Bo ρ' I' w' nt a' s1) → VR ρ' I' w' u x → Q (.panic [{ v := u, recovered := false }]) a' w'

omit [LoopSpec] in
theorem compOp_isCall {op : Op} {b : Nat} {c0 : COp} (hc : compOp P b op = some c0) (hn : c0.notCall = false) : ∃ c', op = .call c' := by
  cases op <;> first
    | exact ⟨_, rfl⟩
    | (exfalso; simp only [compOp, compCall, reduceCtorEq] at hc; done)
    | (exfalso
       simp only [compOp, compCall] at hc
       (repeat' split at hc) <;> first
         | (cases hc; cases hn; done)
         | (cases hc; done)
         | (simp only [Option.map_eq_some_iff] at hc; obtain ⟨_, _, rfl⟩ := hc; cases hn; done)
         | (simp only [Option.map_eq_some_iff, Function.comp_def] at hc; obtain ⟨_, _, rfl⟩ := hc; (first | (cases hn; done) | (split at hn <;> first | (cases hn; done) | (split at hn <;> cases hn)) | (revert hn; split <;> intro hn <;> cases hn)); done)
         | (simp only [Option.bind_eq_some_iff] at hc; obtain ⟨_, _, hc⟩ := hc; (repeat' split at hc) <;> first | (cases hc; cases hn; done) | (cases hc; done) | (simp only [Option.map_eq_some_iff] at hc; obtain ⟨_, _, rfl⟩ := hc; cases hn; done))
         | contradiction
         | (cases hc; split at hn <;> cases hn; done)
         | (simp only [compBin] at hc
            (repeat' split at hc) <;> first
              | (cases hc; cases hn; done)
              | (cases hc; done)
              | (simp only [Option.map_eq_some_iff] at hc; obtain ⟨_, _, rfl⟩ := hc; cases hn; done)
              | contradiction))

theorem wp_operP {r : Option Nat} {o : Oper} {c c0 : COp} {b : Nat} {K : Act → World → Prop} {Q : Exit → Act → World → Prop} (hc : compOp P b o.op = some c0) (hcv : cv c0 c) (hf : FR Bo ρ I w nt a s) (hs : SR ρ I h w) (ev : opP callP c s h = some (x, h')) (hpo : PanOk P callP)
    (hQ : PanQ Q ρ I h w Bo nt x (some s) h') : o.wpIn (FW r) 0 P a w K Q := by
  refine oper_in (compOp_nodefer hc) ?_
  have hcall : evOp callP c0 s h = some (x, h') → c0.notCall = false → o.uponIn (FW r) 0 P a K Q ((execOp a.eval o).run P w) := by
    intro ev hn
    obtain ⟨c', ho⟩ := compOp_isCall hc hn
    rcases call_run ho hc hf ev hn (fun f as h r h' _ e => (hpo f as h r h' e).2.1) with ⟨f, us, as, hyb, e1, e2, e3⟩ | ⟨i, us, as, b, o', e1, e2, e3, e4⟩
    · obtain ⟨_, _, hcalls⟩ := hpo _ _ _ _ _ e1
      rw [e3]
      refine ⟨FW_depth, callsIn_FW.2 ((hcalls ρ I w us hs e2).mono fun e w' he => ?_)⟩
      obtain ⟨ρ', I', u, rfl, st, hs', hv⟩ := he
      exact hQ a w' ρ' I' u st hs' (hf.step hs st).defers (fun s1 q => by cases q; exact hf.step hs st) hv
    · have := (hpo _ _ _ _ _ e1).1
      omega
  cases c with
  | call f as =>
    rcases hcv with q | ⟨_, _, _, _, _, q⟩ | ⟨_, _, _, _, _, _, q⟩ | ⟨_, _, _, _, q⟩ | ⟨_, _, _, _, q⟩
    · subst q; exact hcall ev rfl
    all_goals cases q
  | callS ls f as =>
    rcases hcv with q | ⟨_, _, _, _, _, q⟩ | ⟨_, _, _, _, _, _, q⟩ | ⟨_, _, _, _, q⟩ | ⟨_, _, _, rfl, q⟩
    · subst q
      obtain ⟨c', ho⟩ : ∃ c', o.op = .call c' := by
        cases ho : o.op <;> first
          | exact ⟨_, rfl⟩
          | (exfalso; rw [ho] at hc; simp only [compOp, compCall, reduceCtorEq] at hc; done)
          | (exfalso; rw [ho] at hc
             simp only [compOp, compCall] at hc
             (repeat' split at hc) <;> first
               | (cases hc; done)
               | (simp [Option.map_eq_some_iff] at hc; done)
               | (simp only [Option.map_eq_some_iff, Option.bind_eq_some_iff, Function.comp_def, reduceCtorEq, and_false, exists_false] at hc; done)
               | contradiction
               | (simp [Option.bind_eq_some_iff] at hc; done)
               | (simp only [compBin] at hc
                  (repeat' split at hc) <;> first
                    | (cases hc; done)
                    | (simp [Option.map_eq_some_iff] at hc; done)
                    | (simp [Option.bind_eq_some_iff] at hc; done)
                    | contradiction))
      exfalso
      rw [ho] at hc
      simp only [compOp, compCall] at hc
      (repeat' split at hc) <;> first
        | (cases hc; done)
        | (simp [Option.map_eq_some_iff] at hc; done)
        | (simp only [Option.map_eq_some_iff, Option.bind_eq_some_iff, Function.comp_def, reduceCtorEq, and_false, exists_false] at hc; done)
        | contradiction
        | (simp only [Option.some.injEq] at hc; split at hc <;> cases hc)
        | (simp only [Option.map_eq_some_iff] at hc; obtain ⟨_, _, hc⟩ := hc; split at hc <;> cases hc)
    · cases q
    · cases q
    · cases q
    · cases q; exact hcall ev rfl
  | callv f as =>
    rcases hcv with q | ⟨_, _, _, _, _, q⟩ | ⟨_, _, _, _, _, _, q⟩ | ⟨_, _, _, _, q⟩ | ⟨_, _, _, _, q⟩
    · subst q
      refine hcall ?_ rfl
      simp only [opP] at ev
      simp only [evOp]
      split at ev
      · rename_i g fs cs hg; rw [hg]; exact ev
      · cases ev
    all_goals cases q
  | pan X =>
    rcases hcv with q | ⟨_, _, _, _, _, q⟩ | ⟨_, _, _, _, _, _, q⟩ | ⟨_, _, _, _, q⟩ | ⟨_, _, _, _, q⟩
    · subst q
      simp only [opP] at ev
      split at ev
      case h_2 => cases ev
      rename_i t v' hx
      cases ev
      obtain ⟨x0, ho, hx0⟩ : ∃ x0, o.op = .panic x0 ∧ opd x0 = some X := by
        cases ho : o.op <;> first
          | (rename_i x0; rw [ho] at hc; simp only [compOp, Option.map_eq_some_iff] at hc; obtain ⟨y, hy, q⟩ := hc; cases q; exact ⟨x0, rfl, hy⟩)
          | (exfalso; rw [ho] at hc; simp only [compOp, compCall, reduceCtorEq] at hc; done)
          | (exfalso; rw [ho] at hc
             simp only [compOp, compCall] at hc
             (repeat' split at hc) <;> first
               | (cases hc; done)
               | (simp [Option.map_eq_some_iff] at hc; done)
               | (simp only [Option.map_eq_some_iff, Option.bind_eq_some_iff, Function.comp_def, reduceCtorEq, and_false, exists_false] at hc; done)
               | contradiction
               | (simp [Option.bind_eq_some_iff] at hc; done)
               | (simp only [Option.some.injEq] at hc; split at hc <;> cases hc; done)
               | (simp only [Option.map_eq_some_iff] at hc; obtain ⟨_, _, hc⟩ := hc; split at hc <;> first | cases hc | (split at hc <;> cases hc))
               | (simp only [compBin] at hc
                  (repeat' split at hc) <;> first
                    | (cases hc; done)
                    | (simp [Option.map_eq_some_iff] at hc; done)
                    | (simp [Option.bind_eq_some_iff] at hc; done)
                    | contradiction))
      have hv := opd_vr hx0 hf
      rw [hx] at hv
      generalize hux : a.eval x0 = ux at hv
      have hrun : ∀ q, ux = .iface t q → (execOp a.eval o).run P w = .halt (.panic (.iface t q)) w := by
        rintro q rfl
        simp only [execOp, ho, hux]
        simp [Instr.panic, goPanic, Sem.run]
      cases hv with
      | ifc hv =>
        rw [hrun _ rfl]
        exact hQ a w ρ I _ .refl hs hf.defers (fun s1 q => by cases q; exact hf) (.ifc hv)
    all_goals cases q
  | _ => cases ev

theorem PanQ.step {Q : Exit → Act → World → Prop} {ρ1 : Nat → Option (Nat × Nat)} {I1 : Nat → Prop} {h1 : AH} {w1 : World} {so : Option Fr} (hQ : PanQ Q ρ I h w Bo nt x so h') (st : St ρ I h w ρ1 I1 h1 w1) : PanQ Q ρ1 I1 h1 w1 Bo nt x so h' :=
  fun a' w' ρ' I' u st' hs' hd hf hv => hQ a' w' ρ' I' u (st.trans st') hs' hd hf hv
theorem PanQ.none {Q : Exit → Act → World → Prop} {so : Option Fr} (hQ : PanQ Q ρ I h w Bo nt x Option.none h') : PanQ Q ρ I h w Bo nt x so h' :=
  fun a' w' ρ' I' u st' hs' hd _ hv => hQ a' w' ρ' I' u st' hs' hd (fun _ q => by cases q) hv

/-- The step of a region that panics. -/
theorem wp_stepP {r : Option Nat} {of : Nat → Nat} {all : Array Oper} {i : Nat} {o : Oper} {c : COper} {K : Act → World → Prop} {Q : Exit → Act → World → Prop} (hp : Pair P of nt all o c) (hi : all[i]? = some o) (hf : FR Bo ρ I w nt a s) (hs : SR ρ I h w)
    (hwt : wants c.guard s = true) (ev : opP callP c.op s h = some (x, h')) (hpo : PanOk P callP) (hQ : PanQ Q ρ I h w Bo nt x (some s) h') : wpOpIn (FW r) 0 P all Q i K a w := by
  unfold wpOpIn
  simp only [hi]
  rw [wanted_eq hp hf, if_pos hwt]
  rcases hp.op with ⟨b, c0, hb, hcv⟩ | hb
  · exact wp_operP hb hcv hf hs ev hpo hQ
  · rw [hb] at ev; cases ev

omit [LoopSpec] in
theorem evOpsP_inv {cops : List COper} {k : Nat} : ∀ (rest pre : List COper) (s : Fr) (h : AH), cops = pre ++ rest → evOpsP call callP rest pre.length s h = some (k, x, s', h') →
    pre.length ≤ k ∧ ∃ h1 ck, evSeq call cops (List.range' pre.length (k - pre.length)) s h = some (s', h1) ∧ cops[k]? = some ck ∧ wants ck.guard s' = true ∧ opP callP ck.op s' h1 = some (x, h')
  | [], pre, s, h, hc, e => by cases e
  | o :: r, pre, s, h, hc, e => by
    have hi : cops[pre.length]? = some o := by rw [hc]; simp
    have hnext : ∀ (s1 : Fr) (h1 : AH), evStep call o s h = some (s1, h1) → evOpsP call callP r (pre.length + 1) s1 h1 = some (k, x, s', h') →
        pre.length ≤ k ∧ ∃ h1 ck, evSeq call cops (List.range' pre.length (k - pre.length)) s h = some (s', h1) ∧ cops[k]? = some ck ∧ wants ck.guard s' = true ∧ opP callP ck.op s' h1 = some (x, h') := by
      intro s1 h1 hst e
      have := evOpsP_inv (cops := cops) r (pre ++ [o]) s1 h1 (by rw [hc]; simp) (by simpa using e)
      simp only [List.length_append, List.length_singleton] at this
      obtain ⟨q1, h2, ck, q2, q3, q4, q5⟩ := this
      refine ⟨by omega, h2, ck, ?_, q3, q4, q5⟩
      have : k - pre.length = (k - (pre.length + 1)) + 1 := by omega
      rw [this, List.range'_succ]
      simp only [evSeq, hi, hst]
      exact q2
    simp only [evOpsP] at e
    split at e
    · rename_i hw
      split at e
      · rename_i v1 h1 hev
        exact hnext _ _ (evStep_mk (.inl ⟨hw, hev⟩)) e
      · simp only [Option.map_eq_some_iff, Prod.mk.injEq] at e
        obtain ⟨p, e1, rfl, rfl, rfl, rfl⟩ := e
        exact ⟨Nat.le_refl _, h, o, by simp [evSeq], hi, hw, e1⟩
    · rename_i hw
      exact hnext _ _ (evStep_mk (.inr ⟨by simpa using hw, rfl, rfl⟩)) e

theorem wpOps_pan {r : Option Nat} {of : Nat → Nat} {all : Array Oper} {cops : List COper} {Q : Exit → Act → World → Prop} {k : Nat} {ck : COper} {rest : List Nat} {s1 : Fr} {h1 : AH} (hcl : cops.length = all.size)
    (hpair : ∀ (i : Nat) o c, all[i]? = some o → cops[i]? = some c → Pair P of nt all o c) (hco : CallOk P call) (hpo : PanOk P callP) (hck : cops[k]? = some ck) (hwt : wants ck.guard s1 = true) (hop : opP callP ck.op s1 h1 = some (x, h')) :
    ∀ (l : List Nat) (a : Act) (w : World) (ρ : Nat → Option (Nat × Nat)) (I : Nat → Prop) (s : Fr) (h : AH), FR Bo ρ I w nt a s → SR ρ I h w → evSeq call cops l s h = some (s1, h1) →
      PanQ Q ρ I h w Bo nt x (some s1) h' → wpOpsIn (FW r) 0 P all Q (l ++ k :: rest) a w
  | [], a, w, ρ, I, s, h, hf, hs, e, hQ => by
    cases e
    rw [List.nil_append, wpOpsIn_cons]
    have hlt : k < all.size := by
      rw [← hcl]
      rcases Nat.lt_or_ge k cops.length with q | q
      · exact q
      · rw [List.getElem?_eq_none q] at hck; cases hck
    have hi : all[k]? = some all[k] := Array.getElem?_eq_getElem hlt
    exact wp_stepP (hpair k _ _ hi hck) hi hf hs hwt hop hpo hQ
  | i :: l, a, w, ρ, I, s, h, hf, hs, e, hQ => by
    rw [List.cons_append, wpOpsIn_cons]
    simp only [evSeq] at e
    cases hc : cops[i]? with
    | none => simp [hc] at e
    | some c =>
      simp only [hc] at e
      cases hst : evStep call c s h with
      | none => simp [hst] at e
      | some p =>
        obtain ⟨s2, h2⟩ := p
        simp only [hst] at e
        have hlt : i < all.size := by
          rw [← hcl]
          rcases Nat.lt_or_ge i cops.length with q | q
          · exact q
          · rw [List.getElem?_eq_none q] at hc; cases hc
        have hi : all[i]? = some all[i] := Array.getElem?_eq_getElem hlt
        refine wp_step (hpair i _ _ hi hc) hi hf hs hst hco fun a' w' ρ' I' st hs' hf' => ?_
        exact wpOps_pan hcl hpair hco hpo hck hwt hop l a' w' ρ' I' s2 h2 hf' hs' e (hQ.step st)

omit [LoopSpec] in
/-- Steps that leave the heap alone. -/
theorem evSeq_pure {cops : List COper} (hp : PureOk pu call) (hwf : WfOk call) : ∀ (l : List Nat) (s : Fr) (h : AH) (s1 : Fr) (h1 : AH), WFH h → (∀ j ∈ l, ∃ c, cops[j]? = some c ∧ (cls pu c.op = 0 ∨ cls pu c.op = 1)) → evSeq call cops l s h = some (s1, h1) →
    h1 = h ∧ ∀ t, (∀ j ∈ l, ∀ c, cops[j]? = some c → c.dst ≠ some t) → s1 t = s t
  | [], s, h, s1, h1, _, _, e => by cases e; exact ⟨rfl, fun _ _ => rfl⟩
  | j :: l, s, h, s1, h1, hw, hl, e => by
    obtain ⟨c, hc, hcls⟩ := hl j (by simp)
    simp only [evSeq, hc] at e
    cases hst : evStep call c s h with
    | none => simp [hst] at e
    | some p =>
      obtain ⟨s2, h2⟩ := p
      simp only [hst] at e
      obtain ⟨v, rfl, q⟩ := evStep_inv hst
      obtain ⟨q0, q1, _⟩ := step_heap hp hw q
      have hh : h2 = h := by
        rcases hcls with g | g
        · exact (q0 g).1
        · exact (q1 g).1
      subst hh
      obtain ⟨r1, r2⟩ := evSeq_pure hp hwf l _ h2 s1 h1 hw (fun j hj => hl j (by simp [hj])) e
      refine ⟨r1, fun t ht => ?_⟩
      rw [r2 t fun j hj => ht j (by simp [hj])]
      exact put_get fun z hz q => ht j (by simp) c hc (by rw [hz, q])

omit [LoopSpec] in
theorem opP_congr {o : COp} {s s2 : Fr} (hs : ∀ t ∈ (match weakOf o with | some w => w.slots | none => o.slots), s t = s2 t) : opP callP o s h = opP callP o s2 h := by
  cases o <;> try rfl
  case call f as => simp only [opP]; rw [vals_congr (xs := as) (fun t ht => hs t ht)]
  case callS ls f as => simp only [opP]; rw [vals_congr (xs := as) (fun t ht => hs t ht)]
  case callv f as =>
    simp only [opP]
    have e1 : f.val s = f.val s2 := by
      cases f with
      | t n => exact hs n (by show n ∈ [n] ++ _; simp)
      | c v => rfl
    rw [e1, vals_congr (xs := as) (fun t ht => hs t (by show t ∈ f.slots ++ as.flatMap Opd.slots; exact List.mem_append_right _ ht))]
  case pan X =>
    simp only [opP]
    have e1 : X.val s = X.val s2 := by
      cases X with
      | t n => exact hs n (by show n ∈ [n]; simp)
      | c v => rfl
    rw [e1]

/-- A region that draws its order and ends in a panic. -/
theorem wpAny_pan {r : Option Nat} {of : Nat → Nat} {all : Array Oper} {cops : List COper} {Q : Exit → Act → World → Prop} {k : Nat} {ck : COper} (hcl : cops.length = all.size)
    (hpair : ∀ (i : Nat) o c, all[i]? = some o → cops[i]? = some c → Pair P of nt all o c) (hco : CallOk P call) (hpo : PanOk P callP) (hp : PureOk pu call) (hwf : WfOk call) (hck : cops[k]? = some ck)
    (hd : drawOk pu all.toList cops = true) (hpan : panAt pu all.toList cops k = true) :
    ∀ (fuel : Nat) (listed : Array Bool) (a : Act) (w : World) (ρ : Nat → Option (Nat × Nat)) (I : Nat → Prop) (s : Fr) (h : AH) (s1 : Fr) (h1 : AH), listed.size = all.size → (remOf all.size listed).length ≤ fuel →
      (∀ i o, isL listed i = true → all[i]? = some o → ∀ e ∈ edges o, isL listed e = true) → isL listed k = false → FR Bo ρ I w nt a s → SR ρ I h w →
      evSeq call cops ((List.range k).filter fun i => !isL listed i) s h = some (s1, h1) → wants ck.guard s1 = true → opP callP ck.op s1 h1 = some (x, h') → PanQ Q ρ I h w Bo nt x Option.none h' → wpAnyIn (FW r) 0 P .any all Q fuel listed a w := by
  have hklt : k < all.size := by
    rw [← hcl]
    rcases Nat.lt_or_ge k cops.length with q | q
    · exact q
    · rw [List.getElem?_eq_none q] at hck; cases hck
  have hB := befs_spec (all.toList.map edges) []
  simp only [List.length_nil, Nat.zero_le, Nat.zero_add, forall_const, Nat.sub_zero, true_and, Nat.not_lt_zero, false_implies, implies_true, List.length_map, Array.length_toList] at hB
  have hdr : ∀ i, i < all.size → (∀ e ∈ (all.toList.map edges).getD i [], e < i) ∧ ∀ j, j < i → ((befs [] (all.toList.map edges)).getD i []).contains j = true ∨ ∃ x y, cops[j]? = some x ∧ cops[i]? = some y ∧ callPair pu cops j i x y = true := by
    intro i hi
    unfold drawOk at hd
    simp only [List.all_eq_true, List.mem_range, Bool.and_eq_true, decide_eq_true_eq, Bool.or_eq_true] at hd
    obtain ⟨d1, d2⟩ := hd i (by omega)
    refine ⟨d1, fun j hj => ?_⟩
    rcases d2 j hj with q | q
    · exact .inl q
    · right
      split at q
      · rename_i x y hx hy; exact ⟨x, y, hx, hy, q⟩
      · cases q
  have hpk : ∀ j, j < all.size → if j < k then ((befs [] (all.toList.map edges)).getD k []).contains j = true ∨ ∃ c, cops[j]? = some c ∧ (cls pu c.op = 0 ∨ cls pu c.op = 1) ∧ notIn c.dst ck.args = true
      else j = k ∨ ((befs [] (all.toList.map edges)).getD j []).contains k = true := by
    intro j hj
    unfold panAt at hpan
    simp only [List.all_eq_true, List.mem_range] at hpan
    have := hpan j (by omega)
    split at this
    · rename_i hjk
      rw [if_pos hjk]
      simp only [Bool.or_eq_true] at this
      rcases this with q | q
      · exact .inl q
      · right
        split at q
        · rename_i y z hy hz
          rw [hck] at hz
          cases hz
          simp only [Bool.and_eq_true, Bool.or_eq_true, beq_iff_eq] at q
          exact ⟨y, hy, q.1, q.2⟩
        · cases q
    · rename_i hjk
      rw [if_neg hjk]
      simpa using this
  have hedge : ∀ i o, all[i]? = some o → (all.toList.map edges).getD i [] = edges o := by
    intro i o ho
    have : all.toList[i]? = some o := by simpa using ho
    simp [List.getD_eq_getElem?_getD, this]
  intro fuel
  induction fuel with
  | zero =>
    intro listed a w ρ I s h s1 h1 hsz hlen hc hk
    exfalso
    have : k ∈ remOf all.size listed := by simp [remOf, hk, hklt]
    rw [List.eq_nil_of_length_eq_zero (by omega : (remOf all.size listed).length = 0)] at this
    cases this
  | succ fuel ih =>
    intro listed a w ρ I s h s1 h1 hsz hlen hc hk hf hs e hwt hop hQ
    -- what i waits for is listed
    have hbl : ∀ i, i < all.size → (∀ e ∈ (all.toList.map edges).getD i [], isL listed e = true) → ∀ j ∈ (befs [] (all.toList.map edges)).getD i [], isL listed j = true := by
      intro i
      induction i using Nat.strongRecOn with
      | _ i ihk =>
        intro hi he j hj
        rcases hB i hi j hj with q | ⟨e, q1, q2, q3⟩
        · exact he j q
        · have hel := he e q1
          have hek : e < all.size := by omega
          have heo : all[e]? = some all[e] := Array.getElem?_eq_getElem hek
          exact ihk e q2 hek (fun x hx => hc e _ hel heo x (by rw [hedge e _ heo] at hx; exact hx)) j q3
    refine ⟨fun hr => ?_, fun i hi => ?_⟩
    · exfalso
      -- the first that is not listed is ready
      have hex : ∃ m, m < all.size ∧ isL listed m = false ∧ ∀ j, j < m → isL listed j = true := by
        have key : ∀ n, (∃ m, m < n ∧ isL listed m = false ∧ ∀ j, j < m → isL listed j = true) ∨ ∀ j, j < n → isL listed j = true := by
          intro n
          induction n with
          | zero => exact .inr fun j hj => by omega
          | succ n ihn =>
            rcases ihn with ⟨m, q1, q2, q3⟩ | q
            · exact .inl ⟨m, by omega, q2, q3⟩
            · cases hn : isL listed n with
              | false => exact .inl ⟨n, by omega, hn, q⟩
              | true =>
                refine .inr fun j hj => ?_
                by_cases hjn : j = n
                · rw [hjn]; exact hn
                · exact q j (by omega)
        rcases key (k + 1) with ⟨m, q1, q2, q3⟩ | q
        · exact ⟨m, by omega, q2, q3⟩
        · have := q k (by omega); rw [hk] at this; cases this
      obtain ⟨m, q1, q2, q3⟩ := hex
      have : m ∈ Region.ready .any all listed := (ready_mem hsz).2 ⟨q1, q2, fun o ho e he => q3 e ((hdr m q1).1 e (by rw [hedge m o ho]; exact he))⟩
      rw [hr] at this
      cases this
    · obtain ⟨hi1, hi2, hi3⟩ := (ready_mem hsz).1 hi
      have hio : all[i]? = some all[i] := Array.getElem?_eq_getElem hi1
      have hic : cops[i]? = some (cops[i]'(by omega)) := List.getElem?_eq_getElem (by omega)
      generalize hoi : all[i] = o at hio
      generalize hci : cops[i]'(by omega) = c at hic
      have hbi := hbl i hi1 (fun e he => hi3 o hio e (by rw [hedge i o hio] at he; exact he))
      have hpi := hpk i hi1
      by_cases hik : i < k
      · -- ahead of the panic
        have hsplit : ((List.range k).filter fun j => !isL listed j) = ((List.range i).filter fun j => !isL listed j) ++ i :: ((List.range' (i + 1) (k - i - 1)).filter fun j => !isL listed j) := by
          rw [range_cut hik, List.filter_append, List.filter_cons]
          simp [hi2]
        have hset : ∀ j, isL (listed.setIfInBounds i true) j = (isL listed j || j == i) := fun j => isL_set (by omega)
        have hsplit' : ((List.range k).filter fun j => !isL (listed.setIfInBounds i true) j) = ((List.range i).filter fun j => !isL listed j) ++ ((List.range' (i + 1) (k - i - 1)).filter fun j => !isL listed j) := by
          rw [range_cut hik, List.filter_append, List.filter_cons]
          rw [if_neg (by simp [hset])]
          congr 1
          · apply List.filter_congr
            intro j hj
            have : j < i := by simpa using hj
            rw [hset]
            simp [show ¬ j = i by omega]
          · apply List.filter_congr
            intro j hj
            have : i + 1 ≤ j := (List.mem_range'_1.1 hj).1
            rw [hset]
            simp [show ¬ j = i by omega]
        rw [hsplit] at e
        obtain ⟨c', s2, h2, hweak, hst, hmv⟩ := move_any (i := i) (oi := c) hp hwf hic _ _ s h (s1, h1) hs.wfh (List.pairwise_lt_range.filter _) (fun j hj => by simp only [List.mem_filter, List.mem_range] at hj; exact hj.1) (by
          intro j hj
          simp only [List.mem_filter, List.mem_range, Bool.not_eq_true'] at hj
          rcases (hdr i hi1).2 j hj.1 with q | ⟨x, y, hx, hy, q⟩
          · exfalso
            have := hbi j (by simpa using q)
            rw [hj.2] at this
            cases this
          · rw [hic] at hy
            cases hy
            exact ⟨x, hx, q⟩) e
        refine wp_step ((hpair i _ _ hio hic).weak hweak) hio hf hs hst hco fun a' w' ρ' I' st hs' hf' => ?_
        refine ih (listed.setIfInBounds i true) a' w' ρ' I' s2 h2 s1 h1 (by simpa using hsz) ?_ ?_ ?_ hf' hs' (by rw [hsplit']; exact hmv) hwt hop (hQ.step st)
        · have hlt : (remOf all.size (listed.setIfInBounds i true)).length < (remOf all.size listed).length := by
            have e1 : remOf all.size listed = ((List.range i).filter fun j => !isL listed j) ++ i :: ((List.range' (i + 1) (all.size - i - 1)).filter fun j => !isL listed j) := by
              unfold remOf
              rw [range_cut hi1, List.filter_append, List.filter_cons]
              simp [hi2]
            have e2 : remOf all.size (listed.setIfInBounds i true) = ((List.range i).filter fun j => !isL listed j) ++ ((List.range' (i + 1) (all.size - i - 1)).filter fun j => !isL listed j) := by
              unfold remOf
              rw [range_cut hi1, List.filter_append, List.filter_cons]
              rw [if_neg (by simp [hset])]
              congr 1
              · apply List.filter_congr
                intro j hj
                have : j < i := by simpa using hj
                rw [hset]
                simp [show ¬ j = i by omega]
              · apply List.filter_congr
                intro j hj
                have : i + 1 ≤ j := (List.mem_range'_1.1 hj).1
                rw [hset]
                simp [show ¬ j = i by omega]
            rw [e1, e2]
            simp only [List.length_append, List.length_cons]
            omega
          omega
        · intro kk o' hkk ho' ee he
          rw [isL_set (by omega)] at hkk ⊢
          simp only [Bool.or_eq_true, beq_iff_eq] at hkk ⊢
          rcases hkk with hkk | rfl
          · exact .inl (hc kk o' hkk ho' ee he)
          · exact .inl (hi3 o' ho' ee he)
        · rw [hset, hk]; simp; omega
      · rw [if_neg hik] at hpi
        rcases hpi with rfl | q
        · -- the panic
          rw [hic] at hck
          cases hck
          have hrest : ∀ j ∈ (List.range i).filter fun j => !isL listed j, ∃ c', cops[j]? = some c' ∧ (cls pu c'.op = 0 ∨ cls pu c'.op = 1) ∧ notIn c'.dst ck.args = true := by
            intro j hj
            simp only [List.mem_filter, List.mem_range, Bool.not_eq_true'] at hj
            have := hpk j (by omega)
            rw [if_pos hj.1] at this
            rcases this with q | q
            · exfalso
              have := hbi j (by simpa using q)
              rw [hj.2] at this
              cases this
            · exact q
          obtain ⟨rfl, hsl⟩ := evSeq_pure hp hwf _ s h s1 h1 hs.wfh (fun j hj => let ⟨c', g1, g2, _⟩ := hrest j hj; ⟨c', g1, g2⟩) e
          have hrd : ∀ t ∈ ck.args, s1 t = s t := fun t ht => hsl t fun j hj c' hc' q => by
            obtain ⟨c2, g1, _, g3⟩ := hrest j hj
            rw [hc'] at g1
            cases g1
            rw [q] at g3
            simp only [notIn, Bool.not_eq_true'] at g3
            have := List.contains_iff_mem.2 ht
            rw [g3] at this
            cases this
          have hwt' : wants ck.guard s = true := by
            rw [← hwt]
            exact wants_congr fun t b hg => (hrd t (List.mem_append_right _ (by rw [hg]; simp))).symm
          have hop' : opP callP ck.op s h1 = some (x, h') := by
            rw [← hop]
            exact opP_congr fun t ht => (hrd t (List.mem_append_left _ ht)).symm
          exact wp_stepP (hpair i _ _ hio hic) hio hf hs hwt' hop' hpo hQ.none
        · exfalso
          have := hbi k (by simpa using q)
          rw [hk] at this
          cases this

/-- A function that leaves with a panic: its ranges' blocks are shut. -/
theorem leaves_pan {fn : Func} {R : Ending → World → Prop} {ρ0 : Nat → Option (Nat × Nat)} {I0 : Nat → Prop} {h0 : AH} {w0 : World} {chain : List PanicEntry} {tmps : Array Value}
    (hR : ∀ w', St ρ0 I0 h0 w0 ρ I h w' → SR ρ I h w' → VR ρ I w' u x → R (.panicked chain) w') :
    ∀ (Ds : List Nat) (w : World), St ρ0 I0 h0 w0 ρ I h w → SR ρ I h w → VR ρ I w u x → Ds.Nodup → (∀ D ∈ Ds, w0.heap.size ≤ D ∧ ¬ I D ∧ w.heap[D]? = some (.deferred (some []))) →
      LeavesInM (FW none) 0 P fn tmps R (Ds.map fun D => { target := .collected D, args := #[] }) (.panicking chain) w
  | [], w, st, hs, hv, _, _ => hR w st hs hv
  | D :: Ds, w, st, hs, hv, hn, hD => by
    obtain ⟨g1, g2, g3⟩ := hD D (by simp)
    obtain ⟨m1, m2⟩ := hs.shut (ds' := none) g3 g2
    obtain ⟨n1, n2⟩ := List.nodup_cons.1 hn
    refine ⟨by simp, .inl ⟨D, _, rfl, run_takeDeferred g3, leaves_pan hR Ds _ (st.shut g1) m1 (m2 _ _ hv) n2 fun D' hD' => ?_⟩⟩
    obtain ⟨q1, q2, q3⟩ := hD D' (by simp [hD'])
    exact ⟨q1, q2, (World.putObj_heap_other fun e => n1 (by rw [← e]; exact hD')).trans q3⟩

/-- What code that panics comes to. -/
def PanS (P : Program) (pu : Nat → Bool) (T : Nat → Option Fun) (run : (Nat → Nat) → Nat → Code → Fr → AH → Option (PV × Option Fr × AH)) : Prop :=
  ∀ (of : Nat → Nat) (nt : Nat) (c : Code) (s : Fr) (h : AH) (x : PV) (so : Option Fr) (h' : AH), run of nt c s h = some (x, so, h') →
    ∀ (Bo : Nat × List Deferred × Bool) (hgb : gate T = true → Bo.2.2 = false) (r : Option Nat) (a : Act) (w : World) (ρ : Nat → Option (Nat × Nat)) (I : Nat → Prop) (Q : Exit → Act → World → Prop), RIn r w → FR Bo ρ I w nt a s → SR ρ I h w → PanQ Q ρ I h w Bo nt x so h' → c.wpIn (FW r) 0 P Q a w

theorem panOk (ht : TOk P pu T) (how : ∀ f c, T f = some (.code c) → compFn P pu ow f = some c) {run : (Nat → Nat) → Nat → Code → Fr → AH → Option (PV × Option Fr × AH)} (hr : PanS P pu T run) : PanOk P (callPW P ow T run) := by
  intro f as h x h' e
  unfold callPW at e
  split at e
  case h_2 => cases e
  rename_i c hc
  split at e
  · cases e
  split at e
  case h_2 => cases e
  rename_i fn hfn
  split at e
  case h_2 => cases e
  rename_i code hbody
  simp only [Option.map_eq_some_iff, Prod.mk.injEq] at e
  obtain ⟨⟨x0, so, h0⟩, e1, rfl, rfl⟩ := e
  have hyb : f < yb := by
    rcases Nat.lt_or_ge f yb with q | q
    · exact q
    · rw [(ht.lim f q).1] at hc; cases hc
  obtain ⟨fn', code', g1, g2, g3, _⟩ := compFn_inv (how f c hc)
  rw [hfn] at g1
  cases g1
  refine ⟨hyb, ⟨fn, hfn, g3, by rw [hbody]; rfl⟩, fun ρ I w us hs hv => ?_⟩
  refine callsIn_FW.1 (callsIn_of_wp_marks (F := FW none) hfn hbody FW_fn (hr _ _ _ _ _ _ _ _ e1 (w.heap.size, [], false) (fun _ => rfl) none _ w ρ I _ .none (initFr_rel hv) hs fun a' w' ρ' I' u st hs' hd _ hv' => ?_) rfl)
  obtain ⟨Ds, d1, d2, d3, _, d4⟩ := hd
  show LeavesInM (FW none) 0 P fn a'.tmps _ a'.defers _ w'
  rw [d1, List.append_nil]
  exact leaves_pan (R := PostP ρ I h w x0 h0) (fun w2 st2 hs2 hv2 => ⟨ρ', I', u, rfl, st2, hs2, hv2⟩) Ds w' st hs' hv' d2 d4

omit [LoopSpec] in
theorem pickCops_get {ops : List Oper} {cops cops' : List COper} (e : pickCops pu ops cops = some cops') : drawOk pu ops cops' = true ∧ (cops' = cops ∨ cops' = sepCops pu ops cops) := by
  unfold pickCops at e
  split at e
  · rename_i h1; cases e; exact ⟨h1, .inl rfl⟩
  · split at e
    · rename_i h1; cases e; exact ⟨h1, .inr rfl⟩
    · cases e

/-- THE EVALUATOR OF PANICS IS SOUND. -/
theorem evP_sound (ht : TOk P pu T) (how : ∀ f c, T f = some (.code c) → compFn P pu ow f = some c) : ∀ n, PanS P pu T (evP P pu ow T n) ∧
    ∀ (of : Nat → Nat) (nt : Nat) (c : Code) (s : Fr) (h : AH) (x : PV) (so : Option Fr) (h' : AH), evP P pu ow T n of nt (.loop c) s h = some (x, so, h') →
      ∀ (Bo : Nat × List Deferred × Bool) (hgb : gate T = true → Bo.2.2 = false) (r : Option Nat) (a : Act) (w : World) (ρ : Nat → Option (Nat × Nat)) (I : Nat → Prop) (Q : Exit → Act → World → Prop), RIn r w → FR Bo ρ I w nt a s → SR ρ I h w → PanQ Q ρ I h w Bo nt x so h' → Code.roundsIn (FW r) 0 P c Q n a w := by
  intro n
  induction n with
  | zero =>
    refine ⟨?_, ?_⟩
    · intro of nt c s h x so h' e; cases e
    · intro of nt c s h x so h' e; cases e
  | succ n ih =>
    have hco := callOk ht n
    have hpo : PanOk P (callPW P ow T (evP P pu ow T n)) := panOk ht how ih.1
    have hsound := fun Bo hgb => code_sound (P := P) (pu := pu) (T := T) (Bo := Bo) ht hgb n (fun m hm => ⟨callOk ht m, pureOk ht m, (evC_wf ht m).2⟩) n (Nat.le_refl _)
    have hloop : ∀ (of : Nat → Nat) (nt : Nat) (c : Code) (s : Fr) (h : AH) (x : PV) (so : Option Fr) (h' : AH), evP P pu ow T (n + 1) of nt (.loop c) s h = some (x, so, h') →
      ∀ (Bo : Nat × List Deferred × Bool) (hgb : gate T = true → Bo.2.2 = false) (r : Option Nat) (a : Act) (w : World) (ρ : Nat → Option (Nat × Nat)) (I : Nat → Prop) (Q : Exit → Act → World → Prop), RIn r w → FR Bo ρ I w nt a s → SR ρ I h w → PanQ Q ρ I h w Bo nt x so h' → Code.roundsIn (FW r) 0 P c Q (n + 1) a w := by
      intro of nt c s h x so h' e Bo hgb r a w ρ I Q hr hf hs hQ
      rw [roundsIn_succ]
      simp only [evP] at e
      split at e
      · rename_i s1 h1 hev
        refine hsound Bo hgb c of nt s h _ s1 h1 hev r a w ρ I _ hr hf hs fun a' w' ρ' I' st hs' hf' => ?_
        exact ih.2 of nt c s1 h1 x so h' e Bo hgb r a' w' ρ' I' Q (hr.step st.oth) hf' hs' (hQ.step st)
      · cases e
      · exact ih.1 of nt c s h x so h' e Bo hgb r a w ρ I _ hr hf hs hQ
    refine ⟨?_, hloop⟩
    intro of nt c s h x so h' e Bo hgb r a w ρ I Q hr hf hs hQ
    cases c with
    | loop c => exact wpIn_loop_rounds (n + 1) (hloop of nt c s h x so h' e Bo hgb r a w ρ I Q hr hf hs hQ)
    | seq c1 c2 =>
      simp only [evP] at e
      split at e
      · rename_i s1 h1 hev
        refine wpIn_seq (hsound Bo hgb c1 of nt s h _ s1 h1 hev r a w ρ I _ hr hf hs fun a' w' ρ' I' st hs' hf' => ?_)
        exact ih.1 of nt c2 s1 h1 x so h' e Bo hgb r a' w' ρ' I' Q (hr.step st.oth) hf' hs' (hQ.step st)
      · cases e
      · exact wpIn_seq (ih.1 of nt c1 s h x so h' e Bo hgb r a w ρ I _ hr hf hs hQ)
    | cond c c1 c2 =>
      simp only [evP] at e
      split at e
      case h_2 => cases e
      rename_i C ho
      have hv := opd_vr ho hf
      split at e
      · rename_i hb
        rw [hb] at hv
        exact wpIn_cond_true hv.bool_inv (ih.1 of nt c1 s h x so h' e Bo hgb r a w ρ I Q hr hf hs hQ)
      · rename_i hb
        rw [hb] at hv
        exact wpIn_cond_false hv.bool_inv (ih.1 of nt c2 s h x so h' e Bo hgb r a w ρ I Q hr hf hs hQ)
      · cases e
    | scope c => exact wpIn_scope (ih.1 of nt c s h x so h' e Bo hgb r a w ρ I _ hr hf hs hQ)
    | block id c => exact wpIn_block (ih.1 of nt c s h x so h' e Bo hgb r a w ρ I _ hr hf hs hQ)
    | region id ops draw =>
      simp only [evP] at e
      split at e
      case h_2 => cases e
      rename_i cops hcops
      obtain ⟨g1, g2⟩ := compOpers_get _ _ hcops
      have hcl : cops.length = ops.size := by simpa using g1
      have hpair : ∀ (i : Nat) o c, ops[i]? = some o → cops[i]? = some c → Pair P of nt ops o c := fun i o c ho hc => g2 i o c (by simpa using ho) hc
      cases draw with
      | false =>
        simp only [if_true, Option.map_eq_some_iff] at e
        obtain ⟨⟨k, x0, s0, h0⟩, e1, e2⟩ := e
        simp only [Prod.mk.injEq] at e2
        obtain ⟨rfl, rfl, rfl⟩ := e2
        obtain ⟨_, h1, ck, q1, q2, q3, q4⟩ := evOpsP_inv (cops := cops) cops [] s h rfl e1
        have hk : k < ops.size := by
          rw [← hcl]
          rcases Nat.lt_or_ge k cops.length with q | q
          · exact q
          · rw [List.getElem?_eq_none q] at q2; cases q2
        refine wpIn_region ?_
        rw [range_cut hk]
        refine wpOps_pan hcl hpair hco hpo q2 q3 q4 _ a w ρ I s h hf hs ?_ hQ
        rw [List.range_eq_range']
        exact q1
      | true =>
        simp only [Bool.true_eq_false, if_false] at e
        split at e
        case isFalse => cases e
        rename_i hfo
        split at e
        case h_2 => cases e
        rename_i cops' hpick
        split at e
        case h_2 => cases e
        rename_i k x0 s0 h0 e1
        split at e
        case isFalse => cases e
        rename_i hpan
        cases e
        obtain ⟨hd, hq⟩ := pickCops_get hpick
        have hcp : cops'.length = ops.size ∧ ∀ (i : Nat) o c, ops[i]? = some o → cops'[i]? = some c → Pair P of nt ops o c := by
          rcases hq with rfl | rfl
          · exact ⟨hcl, hpair⟩
          · obtain ⟨l1, l2⟩ := sepFrom_get (pu := pu) (B := befs [] (ops.toList.map edges)) (all := cops) cops 0
            refine ⟨l1.trans hcl, fun i o c ho hc => ?_⟩
            obtain ⟨c0, ts, hc0, rfl⟩ := l2 i c hc
            exact (hpair i o c0 ho hc0).sep
        obtain ⟨_, h1, ck, q1, q2, q3, q4⟩ := evOpsP_inv (cops := cops') cops' [] s h rfl e1
        obtain ⟨st, hs2⟩ : SR ρ I h w.drew ∧ St ρ I h w ρ I h w.drew := hs.drew
        have hl0 : ∀ i, isL (Array.replicate ops.size false) i = false := fun i => by
          simp only [isL, Array.getD_eq_getD_getElem?, Array.getElem?_replicate]
          split <;> rfl
        have hfil : ((List.range k).filter fun i => !isL (Array.replicate ops.size false) i) = List.range k := by
          rw [List.filter_eq_self]
          intro j _
          simp [hl0]
        refine wpIn_region_any hfo (wpAny_pan hcp.1 hcp.2 hco hpo (pureOk ht n) (evC_wf ht n).2 q2 hd hpan ops.size _ a w.drew ρ I s h s0 h1 (by simp) (Nat.le_trans (List.length_filter_le _ _) (by simp)) (fun i o hi => by rw [hl0] at hi; cases hi) (hl0 k) (hf.step hs hs2) st ?_ q3 q4 (hQ.step hs2))
        rw [hfil, List.range_eq_range']
        exact q1
    | _ => simp [evP] at e
end
end Go.Ev

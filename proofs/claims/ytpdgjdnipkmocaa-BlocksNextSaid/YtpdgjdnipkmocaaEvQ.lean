/- Statements: where the abstract machine gets through, the machine does, and to what stands for it. -/
import Derived.Test.YtpdgjdnipkmocaaEvP
import Derived.LoopN
import Derived.Scope
set_option linter.unusedVariables false
set_option linter.unusedSimpArgs false
namespace Go.Ev
section
variable {P : Program} {call : Nat → List PV → AH → Option (PV × AH)} {pu : Nat → Bool}

/-- A function that can be entered. -/
def Callable (P : Program) (f : Nat) : Prop := ∃ fn, P.funcs[f]? = some fn ∧ (fn.name == "runtime.NumGoroutine") = false ∧ fn.body.isNone = false

/-- What a call leaves. -/
def Post (ρ : Nat → Option (Nat × Nat)) (I : Nat → Prop) (h : AH) (w : World) (r : PV) (h' : AH) : Ending → World → Prop :=
  fun e w' => ∃ ρ' I' u, e = .returned u ∧ St ρ I h w ρ' I' h' w' ∧ SR ρ' I' h' w' ∧ VR ρ' I' w' u r

def CallOk (P : Program) (call : Nat → List PV → AH → Option (PV × AH)) : Prop :=
  ∀ f as h r h', call f as h = some (r, h') → Callable P (rl f) ∧ ∀ ρ I w us, SR ρ I h w → VRL ρ I w us as → Calls P (rl f) us w (Post ρ I h w r h')

variable {ρ : Nat → Option (Nat × Nat)} {I : Nat → Prop} {h h' : AH} {w : World} {nt : Nat} {a : Act} {s s' : Fr} {v : PV}

theorem run_callFunc {f : Nat} {args : Array Value} (hf : Callable P f) : (callFunc f args).run P w = .ok (.enter f args) w := by
  obtain ⟨fn, h1, h2, h3⟩ := hf
  simp only [callFunc, Sem.run_bind, run_program, Result.andThen_ok, h1]
  simp [h2, h3]

theorem VRL.append {us vs : Array Value} {as bs : List PV} (h1 : VRL ρ I w us as) (h2 : VRL ρ I w vs bs) : VRL ρ I w (us ++ vs) (as ++ bs) := by
  obtain ⟨a1, a2⟩ := h1
  obtain ⟨b1, b2⟩ := h2
  refine ⟨by simp [a1, b1], fun j hj => ?_⟩
  have hj' : j < as.length + bs.length := by simpa using hj
  simp only [Array.getD_eq_getD_getElem?, Array.getElem?_append, List.getElem_append]
  by_cases q : j < as.length
  · rw [if_pos (by omega)]
    simp only [q, dite_true]
    have := a2 j q
    simpa [Array.getD_eq_getD_getElem?] using this
  · rw [if_neg (by omega)]
    simp only [q, dite_false]
    have := b2 (j - as.length) (by omega)
    rw [a1]
    simpa [Array.getD_eq_getD_getElem?] using this

/-- A call among the operations. -/
theorem call_run {o : Oper} {c : COp} {ow : Bool} {c' : Call} (ho : o.op = .call c') (hc : compOp P ow o.op = some c) (hf : FR ρ I w nt a s) (ev : evOp call c s h = some (v, h')) (hn : c.notCall = false) (hco : CallOk P call) :
    ∃ f us as, call f as h = some (v, h') ∧ VRL ρ I w us as ∧ (execOp a.eval o).run P w = .ok (.enter (rl f) us) w := by
  · rw [ho] at hc
    obtain ⟨cal, args, ats⟩ := c'
    simp only [compOp, compCall] at hc
    have amap : ∀ xs, opds args.toList = some xs → VRL ρ I w (args.map a.eval) (xs.map (Opd.val s)) := by
      intro xs hx
      have := opds_vr _ _ hx hf
      have e : (args.toList.map a.eval).toArray = args.map a.eval := by
        rw [← Array.toList_inj]; simp
      rw [e] at this
      exact this
    split at hc
    · rename_i f
      split at hc
      · rename_i hlt
        simp only [Option.map_eq_some_iff] at hc
        obtain ⟨xs, hx, rfl⟩ := hc
        refine ⟨_, args.map a.eval, _, ev, amap xs hx, ?_⟩
        obtain ⟨hcl, _⟩ := hco _ _ _ _ _ ev
        have hrl : rl (if ow = true then f + vb else f) = f := by
          unfold rl
          split
          · rw [Nat.add_mod_right, Nat.mod_eq_of_lt hlt]
          · exact Nat.mod_eq_of_lt hlt
        rw [hrl] at hcl ⊢
        simp only [execOp, ho, resolve, Act.eval, Deferred.ofValue]
        simp [invoke, run_callFunc hcl]
      · cases hc
    · rename_i x hne
      split at hc
      · rename_i X xs hX hx
        cases hc
        simp only [evOp] at ev
        split at ev
        · rename_i g fs cs hg
          split at ev
          case isFalse => cases ev
          rename_i hlt
          have hv := opd_vr hX hf
          rw [hg] at hv
          obtain ⟨hcl, _⟩ := hco _ _ _ _ _ ev
          have hrl : rl g = g := Nat.mod_eq_of_lt hlt
          rw [hrl] at hcl
          generalize hux : a.eval x = ux at hv
          cases hv with
          | fn h1 h2 h3 h4 =>
            rename_i F C
            refine ⟨g, F ++ args.map a.eval ++ C, _, ev, ?_, ?_⟩
            rotate_left
            · rw [hrl]
              simp only [execOp, ho, resolve, hux, Deferred.ofValue]
              simp [invoke, run_callFunc hcl]
            · exact (VRL.append ⟨h1, h3⟩ (amap xs hx)).append ⟨h2, h4⟩
        · cases ev
      · cases hc
    · cases hc
    · (repeat' split at hc) <;> first
        | (cases hc; cases hn)
        | cases hc

/-- One operation. -/
theorem wp_oper {o : Oper} {c : COp} {ow : Bool} {K : Act → World → Prop} {Q : Exit → Act → World → Prop} (hc : compOp P ow o.op = some c) (hf : FR ρ I w nt a s) (hs : SR ρ I h w) (ev : evOp call c s h = some (v, h')) (hco : CallOk P call)
    (hK : ∀ u w' ρ' I', St ρ I h w ρ' I' h' w' → SR ρ' I' h' w' → VR ρ' I' w' u v → K (a.put o.dst u) w') : o.wp P a w K Q := by
  by_cases hcall : (∃ c', o.op = .call c') ∧ c.notCall = false
  · obtain ⟨⟨c', ho⟩, hn⟩ := hcall
    obtain ⟨f, us, as, e1, e2, e3⟩ := call_run ho hc hf ev hn hco
    obtain ⟨_, hcalls⟩ := hco _ _ _ _ _ e1
    unfold Oper.wp
    rw [e3]
    refine (hcalls ρ I w us hs e2).mono fun e w' he => ?_
    obtain ⟨ρ', I', u, rfl, st, hs', hv⟩ := he
    exact hK u w' ρ' I' st hs' hv
  · have hn : ∀ c', o.op = .call c' → c.notCall = true := by
      intro c' ho
      cases hq : c.notCall with
      | true => rfl
      | false => exact absurd ⟨⟨c', ho⟩, hq⟩ hcall
    obtain ⟨u, w', ρ', I', hr, st, hs', hv⟩ := op_out hc hf hs ev hn
    unfold Oper.wp
    rcases hr with hr | ⟨hr, rfl⟩
    · rw [hr]; exact hK u w' ρ' I' st hs' hv
    · rw [hr]; exact hK _ w' ρ' I' st hs' hv

/- The region's operations and the translation's. -/
structure Pair (P : Program) (ow : Nat → Bool) (nt : Nat) (all : Array Oper) (o : Oper) (c : COper) : Prop where
  dst : c.dst = o.dst
  op : (∃ b, compOp P b o.op = some c.op) ∨ c.op = .bad
  dlt : ∀ d, o.dst = some d → d < nt
  guard : (o.guard = none ∧ c.guard = none) ∨ ∃ j want d, o.guard = some (j, want) ∧ (all[j]?).bind (·.dst) = some d ∧ c.guard = some (d, want) ∧ d < nt

theorem compOpers_get {ow : Nat → Bool} {all : Array Oper} : ∀ (ops : List Oper) (cops : List COper), compOpers P ow nt all ops = some cops → cops.length = ops.length ∧ ∀ (i : Nat) o c, ops[i]? = some o → cops[i]? = some c → Pair P ow nt all o c
  | [], cops, e => by cases e; exact ⟨rfl, fun i o c h => by simp at h⟩
  | o :: r, cops, e => by
    simp only [compOpers] at e
    split at e
    · rename_i g rest hg hr
      split at e
      · rename_i hok
        cases e
        obtain ⟨h1, h2⟩ := compOpers_get r rest hr
        refine ⟨by simp [h1], fun i o' c' ho hc => ?_⟩
        cases i with
        | succ i => exact h2 i o' c' (by simpa using ho) (by simpa using hc)
        | zero =>
          simp at ho hc
          subst ho hc
          simp only [slotsOk, Bool.and_eq_true] at hok
          obtain ⟨k1, k2⟩ := hok
          refine ⟨rfl, ?_, ?_, ?_⟩
          · simp only
            cases hcomp : compOp P (match o.dst with | some d => ow d | none => false) o.op with
            | none => right; rfl
            | some c => left; exact ⟨_, hcomp⟩
          · intro d hd
            rw [hd] at k1
            simpa using k1
          · simp only [compGuard] at hg
            split at hg
            · rename_i hgn
              cases hg
              exact .inl ⟨hgn, rfl⟩
            · rename_i j want hgs
              split at hg
              · rename_i d hd
                cases hg
                exact .inr ⟨j, want, d, hgs, hd, rfl, by simpa using k2⟩
              · cases hg
      · cases e
    · cases e

theorem wanted_eq {ow : Nat → Bool} {all : Array Oper} {o : Oper} {c : COper} (hp : Pair P ow nt all o c) (hf : FR ρ I w nt a s) : Region.wanted o (yielded all a.tmps) = wants c.guard s := by
  rcases hp.guard with ⟨h1, h2⟩ | ⟨j, want, d, h1, h2, h3, h4⟩
  · simp [Region.wanted, h1, h2, wants]
  · have hv := hf.slot d
    have hlt : d < a.tmps.size := Nat.lt_of_lt_of_le h4 hf.size
    have hg : a.tmps[d]? = some (a.tmps.getD d undef) := by simp [Array.getD, hlt]
    simp only [Region.wanted, h1, h3, wants, yielded, h2, Option.bind_some, hg]
    generalize a.tmps.getD d undef = x at hv
    generalize s d = y at hv
    cases hv <;> first | rfl | (rename_i b; cases b <;> cases want <;> rfl)

/-- One step of a region. -/
theorem wp_step {ow : Nat → Bool} {all : Array Oper} {i : Nat} {o : Oper} {c : COper} {K : Act → World → Prop} {Q : Exit → Act → World → Prop} (hp : Pair P ow nt all o c) (hi : all[i]? = some o) (hf : FR ρ I w nt a s) (hs : SR ρ I h w)
    (ev : evStep call c s h = some (s', h')) (hco : CallOk P call) (hK : ∀ a' w' ρ' I', St ρ I h w ρ' I' h' w' → SR ρ' I' h' w' → FR ρ' I' w' nt a' s' → K a' w') : wpOp P all Q i K a w := by
  unfold wpOp
  simp only [hi]
  rw [wanted_eq hp hf]
  obtain ⟨v, rfl, e⟩ := evStep_inv ev
  have hdl : ∀ t, c.dst = some t → t < nt := by rw [hp.dst]; exact hp.dlt
  rcases e with ⟨e1, e2⟩ | ⟨e1, rfl, rfl⟩
  · rw [if_pos e1]
    left
    rcases hp.op with ⟨b, hb⟩ | hb
    · refine wp_oper hb hf hs (evOpB_inv e2).2 hco fun u w' ρ' I' st hs' hv => hK _ w' ρ' I' st hs' ?_
      rw [← hp.dst]
      exact (hf.step hs st).put hdl hv
    · rw [hb] at e2; cases (evOpB_inv e2).2
  · rw [if_neg (by simp [e1])]
    refine hK _ w ρ I .refl hs ?_
    rw [← hp.dst]
    exact hf.put hdl VR.undef

theorem wpOps_seq {ow : Nat → Bool} {all : Array Oper} {cops : List COper} {Q : Exit → Act → World → Prop} (hcl : cops.length = all.size) (hpair : ∀ (i : Nat) o c, all[i]? = some o → cops[i]? = some c → Pair P ow nt all o c) (hco : CallOk P call) :
    ∀ (l : List Nat) (a : Act) (w : World) (ρ : Nat → Option (Nat × Nat)) (I : Nat → Prop) (s : Fr) (h : AH), FR ρ I w nt a s → SR ρ I h w → evSeq call cops l s h = some (s', h') →
      (∀ a' w' ρ' I', St ρ I h w ρ' I' h' w' → SR ρ' I' h' w' → FR ρ' I' w' nt a' s' → Q .normal a' w') → wpOps P all Q l a w
  | [], a, w, ρ, I, s, h, hf, hs, e, hQ => by cases e; exact hQ a w ρ I .refl hs hf
  | i :: l, a, w, ρ, I, s, h, hf, hs, e, hQ => by
    rw [wpOps_cons]
    simp only [evSeq] at e
    cases hc : cops[i]? with
    | none => simp [hc] at e
    | some c =>
      simp only [hc] at e
      cases hst : evStep call c s h with
      | none => simp [hst] at e
      | some p =>
        obtain ⟨s1, h1⟩ := p
        simp only [hst] at e
        have hlt : i < all.size := by
          rw [← hcl]
          rcases Nat.lt_or_ge i cops.length with q | q
          · exact q
          · rw [List.getElem?_eq_none q] at hc; cases hc
        have hi : all[i]? = some all[i] := Array.getElem?_eq_getElem hlt
        refine wp_step (hpair i _ _ hi hc) hi hf hs hst hco fun a' w' ρ' I' st hs' hf' => ?_
        exact wpOps_seq hcl hpair hco l a' w' ρ' I' s1 h1 hf' hs' e fun a2 w2 ρ2 I2 st2 hs2 hf2 => hQ a2 w2 ρ2 I2 (st.trans st2) hs2 hf2
end
end Go.Ev

/- Functions that defer one function, which may recover: by the abstract machine; nothing here is assumed of a program. -/
import Derived.Test.YtkaabknkabdfpaaGreatDoorLibP
set_option linter.unusedVariables false
set_option linter.unusedSimpArgs false
namespace Go.Ev

/-- Without ranges over functions. -/
def ungate (T : Nat → Option Fun) : Nat → Option Fun := fun f => if f = lpb then .none else T f
theorem gate_ungate (T : Nat → Option Fun) : gate (ungate T) = false := by simp [gate, ungate]

/-- A region that makes a function and defers it. -/
def deferReg : Code → Option (Array Oper × Oper × Oper × Operand)
  | .region _ ops false => match ops.toList with
    | [o1, o2] => match o2.op with
      | .defer c => match c.callee with
        | .value x => if c.args.size = 0 ∧ o2.guard.isNone = true ∧ o2.dst.isNone = true then some (ops, o1, o2, x) else .none
        | _ => .none
      | _ => .none
    | _ => .none
  | _ => .none

theorem deferReg_inv {c : Code} {ops : Array Oper} {o1 o2 : Oper} {x : Operand} (e : deferReg c = some (ops, o1, o2, x)) :
    ∃ id cl, c = .region id ops false ∧ ops = #[o1, o2] ∧ o2.op = .defer cl ∧ cl.callee = .value x ∧ cl.args = #[] ∧ o2.guard = none ∧ o2.dst = none := by
  unfold deferReg at e
  split at e
  case h_2 => cases e
  rename_i id ops'
  split at e
  case h_2 => cases e
  rename_i a b hl
  split at e
  case h_2 => cases e
  rename_i cl hop
  split at e
  case h_2 => cases e
  rename_i y hcal
  split at e
  case isFalse => cases e
  rename_i hc
  cases e
  refine ⟨id, cl, rfl, by rw [← Array.toList_inj]; exact hl, hop, hcal, Array.eq_empty_of_size_eq_zero hc.1, by simpa using hc.2.1, by simpa using hc.2.2⟩

/-- A region that asks for the panic under way. -/
def recReg : Code → Option (Array Oper × Oper × Oper × Nat × Nat)
  | .region _ ops false => match ops.toList with
    | [o1, o2] => match o1.op, o1.dst, o2.op, o2.dst with
      | .call c, some d, .assign (.tmp t), some d' => match c.callee with
        | .builtin .recover => if c.args.size = 0 ∧ o1.guard.isNone = true ∧ o2.guard.isNone = true ∧ t = d then some (ops, o1, o2, d, d') else .none
        | _ => .none
      | .call c, some d, .move (.tmp t), some d' => match c.callee with
        | .builtin .recover => if c.args.size = 0 ∧ o1.guard.isNone = true ∧ o2.guard.isNone = true ∧ t = d then some (ops, o1, o2, d, d') else .none
        | _ => .none
      | _, _, _, _ => .none
    | _ => .none
  | _ => .none

theorem recReg_inv {c : Code} {ops : Array Oper} {o1 o2 : Oper} {d d' : Nat} (e : recReg c = some (ops, o1, o2, d, d')) :
    ∃ id cl, c = .region id ops false ∧ ops = #[o1, o2] ∧ o1.op = .call cl ∧ cl.callee = .builtin .recover ∧ cl.args = #[] ∧ o1.guard = none ∧ o2.guard = none ∧ o1.dst = some d ∧ o2.dst = some d' ∧ (o2.op = .assign (.tmp d) ∨ o2.op = .move (.tmp d)) := by
  unfold recReg at e
  split at e
  case h_2 => cases e
  rename_i id ops'
  split at e
  case h_2 => cases e
  rename_i a b hl
  split at e
  case h_3 => cases e
  · rename_i cl q t q' h1 h2 h3 h4
    split at e
    case h_2 => cases e
    rename_i hcal
    split at e
    case isFalse => cases e
    rename_i hc
    cases e
    obtain ⟨c1, c2, c3, rfl⟩ := hc
    exact ⟨id, cl, rfl, by rw [← Array.toList_inj]; exact hl, h1, hcal, Array.eq_empty_of_size_eq_zero c1, by simpa using c2, by simpa using c3, h2, h4, .inl h3⟩
  · rename_i cl q t q' h1 h2 h3 h4
    split at e
    case h_2 => cases e
    rename_i hcal
    split at e
    case isFalse => cases e
    rename_i hc
    cases e
    obtain ⟨c1, c2, c3, rfl⟩ := hc
    exact ⟨id, cl, rfl, by rw [← Array.toList_inj]; exact hl, h1, hcal, Array.eq_empty_of_size_eq_zero c1, by simpa using c2, by simpa using c3, h2, h4, .inr h3⟩

section
variable (P : Program) (pu : Nat → Bool) (ow : Nat → Nat → Nat) (T : Nat → Option Fun)

/-- Code up to its deferred function: slots, heap, that function, what it holds, the code behind. -/
def runD (n : Nat) (of : Nat → Nat) (nt : Nat) : Nat → Code → Fr → AH → Option (Fr × AH × Nat × List PV × Code)
  | d + 1, .seq a b, s, h => match deferReg a with
    | some (ops, o1, o2, x) => match compOpers P of nt ops [o1], opd x with
      | some [c1], some X => match evOps (callW (ungate T) (evC (ungate T) n)) [c1] s h with
        | some (s1, h1) => match X.val s1 with
          | .fn g [] cs => if g < vb then some (s1, h1, g, cs, b) else .none
          | _ => .none
        | .none => .none
      | _, _ => .none
    | .none => match evC (ungate T) n (compCode P pu of nt a) s h with
      | some (.nrm, s', h') => runD n of nt d b s' h'
      | _ => .none
  | _, _, _, _ => .none

/-- A deferred function that recovers: what it leaves of the heap. -/
def runRec (n : Nat) (g : Nat) (as : List PV) (x : PV) (h : AH) : Option AH :=
  match P.funcs[g]? with
  | some fn => if (fn.name == "runtime.NumGoroutine") = true then .none else match fn.body, resTmps P fn.results.toList with
    | some (.seq a b), some [] => match recReg a with
      | some (_, _, _, d, d') => if d < fn.ntmps ∧ d' < fn.ntmps then
          match evC (ungate T) n (compCode P pu (ow g) fn.ntmps b) (Fr.put (Fr.put (initFr as) (some d) x) (some d') x) h with
          | some (.nrm, _, h') | some (.ret, _, h') => some h'
          | _ => .none
        else .none
      | .none => .none
    | _, _ => .none
  | .none => .none

/-- The code behind the deferred function, to its end or to a panic: the panic's value (or nil), slots, heap. -/
def runB (n : Nat) (of : Nat → Nat) (nt : Nat) (B : Code) (s : Fr) (h : AH) : Option (PV × Fr × AH) :=
  match evC T n (compCode P pu of nt B) s h with
  | some (.nrm, s', h') | some (.ret, s', h') => some (.nili, s', h')
  | some _ => .none
  | .none => match evP P pu ow T n of nt B s h with
    | some (x, some s', h') => some (x, s', h')
    | _ => .none

/-- A call of a function that defers one function, on plain values: its result. -/
def evD (n : Nat) (f : Nat) (as : List PV) : Option PV :=
  match P.funcs[f]? with
  | some fn => match fn.body, resTmps P fn.results.toList with
    | some code, some rs => if (fn.name == "runtime.NumGoroutine") = true then .none else
      match runD P pu T n (ow f) fn.ntmps 1000 code (initFr as) AH.zero with
      | some (s1, h1, g, cs, B) => match runB P pu ow T n (ow f) fn.ntmps B s1 h1 with
        | some (x, s2, h2) => match runRec P pu ow T n g cs x h2 with
          | some h3 => match resOf rs s2 h3 with
            | some r0 => snap h3 snapDepth r0
            | .none => .none
          | .none => .none
        | .none => .none
      | .none => .none
    | _, _ => .none
  | .none => .none
end

variable [LoopSpec]
section
variable {P : Program} {pu : Nat → Bool} {ow : Nat → Nat → Nat} {T : Nat → Option Fun} {ρ : Nat → Option (Nat × Nat)} {I : Nat → Prop} {h h' : AH} {w : World} {nt : Nat} {Bo : Nat × List Deferred × Bool} {a : Act} {s s' : Fr} {u : Value} {v x : PV}

theorem ungate_ok (ht : TOk P pu T) : TOk P pu (ungate T) where
  code := fun f c e => by
    unfold ungate at e
    split at e
    · cases e
    · exact ht.code f c e
  lim := fun f hf => by
    unfold ungate
    refine ⟨?_, (ht.lim f hf).2⟩
    split
    · rfl
    · exact (ht.lim f hf).1
  loops := fun q => by rw [gate_ungate] at q; cases q
  prim := fun f p g e => by
    unfold ungate at e
    split at e
    · cases e
    · exact ht.prim f p g e

theorem runD_sound (ht : TOk P pu T) {n lo : Nat} {of : Nat → Nat} : ∀ (d : Nat) (c : Code) (s : Fr) (h : AH) (s' : Fr) (h' : AH) (g : Nat) (cs : List PV) (B : Code), runD P pu T n of nt d c s h = some (s', h', g, cs, B) →
    ∀ (a : Act) (w : World) (ρ : Nat → Option (Nat × Nat)) (I : Nat → Prop) (Q : Exit → Act → World → Prop), FR (lo, [], true) ρ I w nt a s → SR ρ I h w →
      (∀ a' w' ρ' I' (C : Array Value), g < vb → VRL ρ' I' w' C cs → St ρ I h w ρ' I' h' w' → SR ρ' I' h' w' → FR (lo, [{ target := .fn (.func g) C, args := #[] }], false) ρ' I' w' nt a' s' → B.wpIn (FW none) 0 P Q a' w') →
      c.wpIn (FW none) 0 P Q a w
  | 0, c, s, h, s', h', g, cs, B, e => by cases c <;> cases e
  | d + 1, c, s, h, s', h', g, cs, B, e => by
    intro a w ρ I Q hf hs hQ
    cases c with
    | seq x y =>
      have ht1 := ungate_ok ht
      simp only [runD] at e
      split at e
      · rename_i ops o1 o2 X0 hdr
        obtain ⟨id, cl, rfl, hops, hop, hcal, hargs, hgd, hdst⟩ := deferReg_inv hdr
        split at e
        case h_2 => cases e
        rename_i c1 X hcomp hX
        split at e
        case h_2 => cases e
        rename_i s1 h1 hev
        split at e
        case h_2 => cases e
        rename_i g0 cs0 hv
        split at e
        case isFalse => cases e
        rename_i hlt
        cases e
        obtain ⟨_, hget⟩ := compOpers_get _ _ hcomp
        have hpair : Pair P of nt ops o1 c1 := hget 0 o1 c1 rfl rfl
        have hst : evStep (callW (ungate T) (evC (ungate T) n)) c1 s h = some (s', h') := by
          rw [evOps_step] at hev
          cases q : evStep (callW (ungate T) (evC (ungate T) n)) c1 s h with
          | none => rw [q] at hev; cases hev
          | some p => rw [q] at hev; simpa [evOps, Prod.ext_iff] using hev
        refine wpIn_seq (wpIn_region ?_)
        have hsz : ops.size = 2 := by rw [hops]; rfl
        rw [hsz]
        show wpOpsIn (FW none) 0 P ops _ [0, 1] a w
        rw [wpOpsIn_cons]
        refine wp_step hpair (by rw [hops]; rfl) hf hs hst (callOk ht1 n) fun a' w' ρ' I' st hs' hf' => ?_
        rw [wpOpsIn_cons]
        unfold wpOpIn
        have hi1 : ops[1]? = some o2 := by rw [hops]; rfl
        simp only [hi1]
        have hwant : Region.wanted o2 (yielded ops a'.tmps) = true := by simp [Region.wanted, hgd]
        rw [if_pos hwant]
        have hvv := opd_vr hX hf'
        rw [hv] at hvv
        generalize hux : a'.eval X0 = ux at hvv
        cases hvv with
        | fn q1 q2 q3 q4 =>
          rename_i F C
          obtain rfl : F = #[] := Array.eq_empty_of_size_eq_zero (by simpa using q1)
          have hrun : (execOp a'.eval o2).run P w' = .ok (.defer { target := .fn (.func g) C, args := #[] }) w' := by
            simp only [execOp, hop]
            simp [resolve, hcal, hux, Deferred.ofValue, hargs]
          refine ⟨fun _ _ => trivial, ?_⟩
          show o2.uponIn (FW none) 0 P a' _ _ (Sem.run P (execOp a'.eval o2) w')
          rw [hrun]
          unfold Oper.uponIn
          simp only [hdst]
          show Code.wpIn (FW none) 0 P B Q ({ a' with defers := { target := .fn (.func g) C, args := #[] } :: a'.defers } : Act) w'
          refine hQ _ w' ρ' I' C hlt ⟨q2, q4⟩ st hs' ?_
          obtain ⟨Ds, d1, d2, d3, d5, d4⟩ := hf'.defers
          have : Ds = [] := d5 rfl
          subst this
          exact ⟨hf'.size, ⟨[], by show _ :: a'.defers = _; rw [d1]; rfl, .nil, d3, (fun _ => rfl), fun D hD => by cases hD⟩, hf'.slot⟩
      · split at e
        case h_2 => cases e
        rename_i s1 h1 hev
        refine wpIn_seq (code_sound (P := P) (pu := pu) (T := ungate T) (Bo := (lo, [], true)) ht1 (fun q => by rw [gate_ungate] at q; cases q) n (fun m hm => ⟨callOk ht1 m, pureOk ht1 m, (evC_wf ht1 m).2⟩) n (Nat.le_refl _) x of nt s h _ s1 h1 hev none a w ρ I _ .none hf hs fun a' w' ρ' I' st hs' hf' => ?_)
        exact runD_sound ht d y s1 h1 s' h' g cs B e a' w' ρ' I' Q hf' hs' fun a2 w2 ρ2 I2 C hlt hC st2 hs2 hf2 => hQ a2 w2 ρ2 I2 C hlt hC (st.trans st2) hs2 hf2
    | _ => cases e

/-- How a function is on its way out: with a panic that nobody has recovered, or without. -/
inductive Way (ρ : Nat → Option (Nat × Nat)) (I : Nat → Prop) (w : World) : PV → FrameMode → Value → Prop
  | out : Way ρ I w .nili .returning .nilIface
  | pan {u : Value} {x : PV} (hv : VR ρ I w u x) : Way ρ I w x (.panicking [{ v := u, recovered := false }]) u

omit [LoopSpec] in
theorem Way.vr {m : FrameMode} {v0 : Value} (hw : Way ρ I w x m v0) : VR ρ I w v0 x := by
  cases hw with
  | out => exact .nili
  | pan hv => exact hv

omit [LoopSpec] in
theorem Way.mono {m : FrameMode} {v0 : Value} {ρ' : Nat → Option (Nat × Nat)} {I' : Nat → Prop} {w' : World} (hw : Way ρ I w x m v0) (h : ∀ u v, VR ρ I w u v → VR ρ' I' w' u v) : Way ρ' I' w' x m v0 := by
  cases hw with
  | out => exact .out
  | pan hv => exact .pan (h _ _ hv)

/-- The deferred function, entered on the way out. -/
theorem runRec_sound (ht : TOk P pu T) {n g : Nat} {cs : List PV} {C : Array Value} {m : FrameMode} {v0 : Value} (hg : g < vb) (e : runRec P pu ow T n g cs x h = some h') (hs : SR ρ I h w) (hv : VRL ρ I w C cs) (hw : Way ρ I w x m v0) :
    Callable P g ∧ CallsDIn (FW none) 0 P g C m w (fun e m' w' => ∃ v ρ' I', e = .returned v ∧ settle m' = .returning ∧ St ρ I h w ρ' I' h' w' ∧ SR ρ' I' h' w') := by
  unfold runRec at e
  split at e
  case h_2 => cases e
  rename_i fn hfn
  split at e
  case isTrue => cases e
  rename_i hnm
  split at e
  case h_2 => cases e
  rename_i x1 y1 hbody hres
  split at e
  case h_2 => cases e
  rename_i ops o1 o2 d d' hrec
  split at e
  case isFalse => cases e
  rename_i hdl
  obtain ⟨hd1, hd2⟩ := hdl
  obtain ⟨id, cl, rfl, hops, hop1, hcal, hargs, hg1, hg2, hdst1, hdst2, hop2⟩ := recReg_inv hrec
  refine ⟨⟨fn, hfn, by simpa using hnm, by rw [hbody]; rfl⟩, callsDIn_of_wpSIn hfn hbody FW_fn fun c₀ fs hu => wpSIn_seq (wpSIn_region ?_)⟩
  have ht1 := ungate_ok ht
  have hf0 : FR (w.heap.size, [], true) ρ I w fn.ntmps { tmps := C ++ Array.replicate (fn.ntmps - C.size) undef, defers := [] } (initFr cs) := initFr_rel hv
  generalize ({ tmps := C ++ Array.replicate (fn.ntmps - C.size) undef, defers := [] } : Act) = a0 at hf0 ⊢
  have hsz : ops.size = 2 := by rw [hops]; rfl
  have hi0 : ops[0]? = some o1 := by rw [hops]; rfl
  have hi1 : ops[1]? = some o2 := by rw [hops]; rfl
  have hw1 : ∀ l, Region.wanted o1 l = true := fun l => by simp [Region.wanted, hg1]
  have hw2 : ∀ l, Region.wanted o2 l = true := fun l => by simp [Region.wanted, hg2]
  have hrun1 : ∀ a1 : Act, (execOp a1.eval o1).run P w = .ok .recover w := fun a1 => by
    simp only [execOp, hop1]
    simp [resolve, hcal, hargs, invoke, builtin]
  -- what recover hands back
  have hrecd : ∃ m', settle m' = .returning ∧ ((recoverD (c₀ :: fs) = some (v0, { c₀ with mode := m' } :: fs)) ∨ (recoverD (c₀ :: fs) = none ∧ v0 = .nilIface ∧ m' = c₀.mode)) := by
    cases hw with
    | out =>
      refine ⟨.returning, rfl, .inr ⟨?_, rfl, hu.symm⟩⟩
      simp only [recoverD, hu]
    | pan hv0 =>
      refine ⟨.panicking [{ v := v0, recovered := true }], by simp [settle], .inl ?_⟩
      simp only [recoverD, hu]
  obtain ⟨m', hset, hrecd⟩ := hrecd
  have hf1 : FR (w.heap.size, [], true) ρ I w fn.ntmps (a0.put (some d) v0) (Fr.put (initFr cs) (some d) x) := hf0.put (fun t q => by cases q; exact hd1) hw.vr
  have hev2 : (a0.put (some d) v0).eval (.tmp d) = v0 := by
    have hlt : d < a0.tmps.size := Nat.lt_of_lt_of_le hd1 hf0.size
    simp [Act.eval, Act.put, hlt]
  have hf2 : FR (w.heap.size, [], true) ρ I w fn.ntmps ((a0.put (some d) v0).put (some d') v0) (Fr.put (Fr.put (initFr cs) (some d) x) (some d') x) := hf1.put (fun t q => by cases q; exact hd2) hw.vr
  have hrun2 : (execOp (a0.put (some d) v0).eval o2).run P w = .ok (.value v0) w := by
    rcases hop2 with q | q <;> (simp only [execOp, q]; simp [hev2])
  -- what is done behind it
  have hrest : ∀ fs', fs' = ({ c₀ with mode := m' } :: fs) → y1.wpSIn (FW none) 0 P (bodyPostS P fn c₀ fs (fun e m' w' => ∃ v ρ' I', e = .returned v ∧ settle m' = .returning ∧ St ρ I h w ρ' I' h' w' ∧ SR ρ' I' h' w'))
      ((a0.put (some d) v0).put (some d') v0) fs' w := by
    rintro fs' rfl
    have fin : ∀ (ex : EX) (s1 : Fr), ex = .nrm ∨ ex = .ret → evC (ungate T) n (compCode P pu (ow g) fn.ntmps y1) (Fr.put (Fr.put (initFr cs) (some d) x) (some d') x) h = some (ex, s1, h') →
        y1.wpSIn (FW none) 0 P (bodyPostS P fn c₀ fs (fun e m' w' => ∃ v ρ' I', e = .returned v ∧ settle m' = .returning ∧ St ρ I h w ρ' I' h' w' ∧ SR ρ' I' h' w')) ((a0.put (some d) v0).put (some d') v0) ({ c₀ with mode := m' } :: fs) w := by
      intro ex s1 hee hev
      refine wpSIn_of_wpIn rfl (code_sound (P := P) (pu := pu) (T := ungate T) (Bo := (w.heap.size, [], true)) ht1 (fun q => by rw [gate_ungate] at q; cases q) n (fun m hm => ⟨callOk ht1 m, pureOk ht1 m, (evC_wf ht1 m).2⟩) n (Nat.le_refl _) y1 (ow g) fn.ntmps _ _ _ s1 h' hev none _ w ρ I _ .none hf2 hs fun a' w' ρ' I' st hs' hf' => ?_)
      have hdef : a'.defers = [] := by
        obtain ⟨Ds, d1, d2, d3, d5, d4⟩ := hf'.defers
        rw [d1, d5 rfl]; rfl
      obtain ⟨u, k1, _⟩ := results_ok (P := P) (rs := []) (r := .tup []) hres rfl hf' hs'
      have hp : a'.defers = [] ∧ ∃ u', ({ c₀ with mode := m' } :: fs : List Frame) = { c₀ with mode := u' } :: fs ∧ ∃ v, (results fn a'.tmps).run P w' = .ok v w' ∧ ∃ v2 ρ' I', (Ending.returned v) = .returned v2 ∧ settle u' = .returning ∧ St ρ I h w ρ' I' h' w' ∧ SR ρ' I' h' w' :=
        ⟨hdef, m', rfl, u, k1, u, ρ', I', rfl, hset, st, hs'⟩
      rcases hee with rfl | rfl <;> exact hp
    split at e
    · rename_i s1 h1 hev; cases e; exact fin .nrm s1 (.inl rfl) hev
    · rename_i s1 h1 hev; cases e; exact fin .ret s1 (.inr rfl) hev
    · cases e
  rw [hsz]
  show wpOpsSIn (FW none) 0 P ops _ [0, 1] a0 (c₀ :: fs) w
  have tail : ∀ fs', fs' = ({ c₀ with mode := m' } :: fs) → wpOpsSIn (FW none) 0 P ops (Exit.thenS (y1.wpSIn (FW none) 0 P (bodyPostS P fn c₀ fs (fun e m' w' => ∃ v ρ' I', e = .returned v ∧ settle m' = .returning ∧ St ρ I h w ρ' I' h' w' ∧ SR ρ' I' h' w'))) (bodyPostS P fn c₀ fs (fun e m' w' => ∃ v ρ' I', e = .returned v ∧ settle m' = .returning ∧ St ρ I h w ρ' I' h' w' ∧ SR ρ' I' h' w'))) [1] (a0.put (some d) v0) fs' w := by
    intro fs' hfs
    simp only [wpOpsSIn, hi1, hw2, if_true]
    refine ⟨fun _ _ => trivial, ?_⟩
    rw [hrun2]
    simp only [hdst2]
    exact hrest fs' hfs
  unfold wpOpsSIn
  simp only [hi0, hw1, if_true]
  refine ⟨fun _ _ => trivial, ?_⟩
  rw [hrun1]
  simp only
  rcases hrecd with q | ⟨q, q2, q3⟩
  · rw [q]
    simp only [hdst1]
    exact tail _ rfl
  · rw [q]
    simp only [hdst1]
    rw [← q2]
    exact tail _ (by rw [q3])

/-- The marks of ranges, ahead of what else is deferred. -/
theorem leaves_marks {fn : Func} {tmps : Array Value} {R : Ending → World → Prop} {rest : List Deferred} {m : FrameMode} {ρ0 : Nat → Option (Nat × Nat)} {I0 : Nat → Prop} {h0 : AH} {w0 : World} (hm : m ≠ .run) :
    ∀ (Ds : List Nat) (w2 : World), St ρ0 I0 h0 w0 ρ I h w2 → SR ρ I h w2 → Ds.Nodup → (∀ D ∈ Ds, w0.heap.size ≤ D ∧ ¬ I D ∧ w2.heap[D]? = some (.deferred (some []))) →
      (∀ w3, St ρ0 I0 h0 w0 ρ I h w3 → SR ρ I h w3 → (∀ u v, VR ρ I w2 u v → VR ρ I w3 u v) → LeavesInM (FW none) 0 P fn tmps R rest m w3) →
      LeavesInM (FW none) 0 P fn tmps R (Ds.map (fun D => { target := .collected D, args := #[] }) ++ rest) m w2
  | [], w2, st, hs, _, _, hK => hK w2 st hs (fun _ _ q => q)
  | D :: Ds, w2, st, hs, hn, hD, hK => by
    obtain ⟨g1, g2, g3⟩ := hD D (by simp)
    obtain ⟨m1, m2⟩ := hs.shut (ds' := none) g3 g2
    obtain ⟨n1, n2⟩ := List.nodup_cons.1 hn
    refine ⟨hm, .inl ⟨D, _, rfl, run_takeDeferred g3, leaves_marks hm Ds _ (st.shut g1) m1 n2 (fun D' hD' => ?_) fun w3 st3 hs3 hv3 => hK w3 st3 hs3 fun u v q => hv3 u v (m2 u v q)⟩⟩
    obtain ⟨q1, q2, q3⟩ := hD D' (by simp [hD'])
    exact ⟨q1, q2, (World.putObj_heap_other fun e => n1 (by rw [← e]; exact hD')).trans q3⟩

/-- What a call on plain values, in an empty heap, leaves of the caller's. -/
theorem pure_post {ρ' : Nat → Option (Nat × Nat)} {I' : Nat → Prop} {h3 : AH} {w' : World} {r0 r' : PV} (hs : SR ρ I h w) (st : St (fun _ => none) I AH.zero w ρ' I' h3 w') (hs' : SR ρ' I' h3 w') (hv : VR ρ' I' w' u r0) (hr : snap h3 snapDepth r0 = some r') :
    Post ρ I h w r' h (.returned u) w' := by
  have hkeep : ∀ b, b < w.heap.size → w'.heap[b]? = w.heap[b]? := fun b hb => st.keep b hb fun i o hl _ => hl rfl
  obtain ⟨g1, g2⟩ := hs.grow (I' := fun b => I b ∨ (w.heap.size ≤ b ∧ b < w'.heap.size)) st.os st.tape st.output st.size hkeep (fun b hb => .inl hb) (fun b hb => hb.imp id fun q => q.1) (fun b hb => by
    rcases hb with q | q
    · have := hs.inI b q; have := st.size; omega
    · exact q.2)
  refine ⟨ρ, _, u, rfl, g2, g1, ?_⟩
  have hvr : VR (fun _ => none) (fun b => I b ∨ (w.heap.size ≤ b ∧ b < w'.heap.size)) w' u r' := by
    refine snap_ok hs' snapDepth _ _ _ hr (.inr fun b hb => ?_) (.inr fun i b o hl e => ?_) hv
    · rcases st.immNew b hb with q' | q'
      · exact .inl q'
      · exact .inr ⟨q', hs'.inI b hb⟩
    · rcases st.own i b o hl e with q | ⟨j, o', q, _⟩
      · exact .inr ⟨q, own_lt hs' hl e⟩
      · exact absurd rfl q
  exact hvr.mono (fun i x q => by cases q) (fun b q => q) (fun b _ => rfl) (fun b C T f q => ⟨C, f, q, rfl⟩)

/-- A FUNCTION THAT DEFERS ONE FUNCTION, CALLED ON PLAIN VALUES. -/
theorem evD_calls (ht : TOk P pu T) (how : ∀ f c, T f = some (.code c) → compFn P pu ow f = some c) {n f : Nat} {as : List PV} {r' : PV} (e : evD P pu ow T n f as = some r') :
    Callable P f ∧ ∀ (ρ : Nat → Option (Nat × Nat)) (I : Nat → Prop) (h : AH) (w : World) (us : Array Value), as.any (own snapDepth) = false → allO (snap h snapDepth) as = some as → SR ρ I h w → VRL ρ I w us as → Calls P f us w (Post ρ I h w r' h) := by
  unfold evD at e
  split at e
  case h_2 => cases e
  rename_i fn hfn
  split at e
  case h_2 => cases e
  rename_i code rs hbody hres
  split at e
  case isTrue => cases e
  rename_i hnm
  split at e
  case h_2 => cases e
  rename_i s1 h1 g cs B hD
  split at e
  case h_2 => cases e
  rename_i x s2 h2 hB
  split at e
  case h_2 => cases e
  rename_i h3 hR
  split at e
  case h_2 => cases e
  rename_i r0 hro
  refine ⟨⟨fn, hfn, by simpa using hnm, by rw [hbody]; rfl⟩, fun ρ I h w us hown has hs hv => ?_⟩
  have hs0 : SR (fun _ => none) I AH.zero w :=
    ⟨fun i B q => (by cases q), fun i j b o o' q => absurd rfl q, fun i b o q => absurd rfl q, fun i x q => (by cases q), hs.inI, fun i t q => (by cases q)⟩
  have hv0 : VRL (fun _ => none) I w us as := by
    obtain ⟨g1, g2⟩ := allO_spec _ _ has
    refine ⟨hv.1, fun j hj => snap_ok hs snapDepth _ _ _ (g2 j hj hj) (.inr fun _ q => q) (.inl ?_) (hv.2 j hj)⟩
    simp only [List.any_eq_false] at hown
    have := hown as[j] (List.getElem_mem _)
    simpa using this
  refine callsIn_FW.1 (callsIn_of_wp_marks (F := FW none) hfn hbody FW_fn (runD_sound ht (lo := w.heap.size) 1000 code _ _ s1 h1 g cs B hD _ w _ I _ (initFr_rel hv0) hs0 fun a1 w1 ρ1 I1 C hlt hC st1 hs1 hf1 => ?_) rfl)
  -- the way out
  have leave : ∀ (m : FrameMode) (v0 : Value) (a2 : Act) (w2 : World) (ρ2 : Nat → Option (Nat × Nat)) (I2 : Nat → Prop), m ≠ .run → St ρ1 I1 h1 w1 ρ2 I2 h2 w2 → SR ρ2 I2 h2 w2 → FR (w.heap.size, [{ target := .fn (.func g) C, args := #[] }], false) ρ2 I2 w2 fn.ntmps a2 s2 → Way ρ2 I2 w2 x m v0 →
      LeavesInM (FW none) 0 P fn a2.tmps (Post ρ I h w r' h) a2.defers m w2 := by
    intro m v0 a2 w2 ρ2 I2 hm st2 hs2 hf2 hw2
    obtain ⟨Ds, d1, d2, d3, _, d4⟩ := hf2.defers
    rw [d1]
    refine leaves_marks hm Ds w2 (st1.trans st2) hs2 d2 d4 fun w3 st3 hs3 hv3 => ?_
    have hC3 : VRL ρ2 I2 w3 C cs := ⟨hC.1, fun j hj => hv3 _ _ ((hC.2 j hj).step hs1 st2)⟩
    obtain ⟨hcl, hcalls⟩ := runRec_sound ht hlt hR hs3 hC3 (hw2.mono hv3)
    refine ⟨hm, .inr ⟨FW_depth, .func g, C, g, C, rfl, by simp [invoke, run_callFunc hcl], fun _ _ => FW_fn, hcalls.mono fun en m' w4 hq => ?_⟩⟩
    obtain ⟨v, ρ4, I4, rfl, hset, st4, hs4⟩ := hq
    show LeavesInM (FW none) 0 P fn a2.tmps _ [] (settle m') w4
    rw [hset]
    have hf4 : FR (w4.heap.size, a2.defers, false) ρ4 I4 w4 fn.ntmps a2 s2 := ⟨hf2.size, ⟨[], rfl, .nil, Nat.le_refl _, fun _ => rfl, fun D hD => by cases hD⟩, fun t => (hv3 _ _ (hf2.slot t)).step hs3 st4⟩
    obtain ⟨u, k1, k2⟩ := results_ok (P := P) hres hro hf4 hs4
    exact ⟨u, k1, pure_post hs (st3.trans st4) hs4 k2 e⟩
  unfold runB at hB
  have hok : ∀ m, m < n → CallOk P (callW T (evC T m)) ∧ PureOk pu (callW T (evC T m)) ∧ WfOk (callW T (evC T m)) := fun m hm => ⟨callOk ht m, pureOk ht m, (evC_wf ht m).2⟩
  have normal : ∀ (ex : EX), ex = .nrm ∨ ex = .ret → evC T n (compCode P pu (ow f) fn.ntmps B) s1 h1 = some (ex, s2, h2) → x = .nili → B.wpIn (FW none) 0 P (bodyPostM (FW none) 0 P fn (Post ρ I h w r' h)) a1 w1 := by
    intro ex hex hev hx
    subst hx
    refine code_sound (P := P) (pu := pu) (T := T) ht (fun _ => rfl) n hok n (Nat.le_refl _) B (ow f) fn.ntmps _ _ _ s2 h2 hev none a1 w1 ρ1 I1 _ .none hf1 hs1 fun a' w' ρ' I' st' hs' hf' => ?_
    have := leave .returning .nilIface a' w' ρ' I' (by simp) st' hs' hf' .out
    rcases hex with rfl | rfl <;> exact this
  split at hB
  · rename_i s0 h0 hev; cases hB; exact normal .nrm (.inl rfl) hev rfl
  · rename_i s0 h0 hev; cases hB; exact normal .ret (.inr rfl) hev rfl
  · cases hB
  · split at hB
    · rename_i x0 s0 h0 hev
      cases hB
      refine (evP_sound ht how n).1 _ _ B s1 h1 x (some s2) h2 hev _ (fun _ => rfl) none a1 w1 ρ1 I1 _ .none hf1 hs1 fun a' w' ρ' I' u st' hs' _ hf' hv' => ?_
      exact leave _ u a' w' ρ' I' (by simp) st' hs' (hf' s2 rfl) (.pan hv')
    · cases hB
end
end Go.Ev

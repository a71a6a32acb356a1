/- Code and calls: the abstract machine's evaluator is sound. -/
import Derived.Test.YtpdgjdnipkmocaaEvR
set_option linter.unusedVariables false
set_option linter.unusedSimpArgs false
namespace Go.Ev
section
variable {P : Program} {pu : Nat → Bool} {T : Nat → Option Fun} {ρ : Nat → Option (Nat × Nat)} {I : Nat → Prop} {h h' : AH} {w : World} {nt : Nat} {a : Act} {s s' : Fr} {u : Value} {v : PV}

def EX.to : EX → Exit
  | .nrm => .normal
  | .exit i => .exit i
  | .ret => .ret

/-- What lies below the bar is kept. -/
def KL (h h' : AH) : Prop := h'.lo = h.lo ∧ h.nx ≤ h'.nx ∧ (h.lo ≤ h.nx → ∀ i, i < h.lo → h'.blk i = h.blk i)

/-- What is asked of a library function's contract. -/
structure PrimOk (P : Program) (p : Bool) (f : Nat) (g : List PV → AH → Option (PV × AH)) : Prop where
  callable : Callable P (rl f)
  calls : ∀ as h r h', g as h = some (r, h') → ∀ ρ I w us, SR ρ I h w → VRL ρ I w us as → Calls P (rl f) us w (Post ρ I h w r h')
  wf : ∀ as h r h', WFH h → g as h = some (r, h') → WFH h'
  kl : ∀ as h r h', g as h = some (r, h') → KL h h'
  pure : p = true → ∀ as h r h', g as h = some (r, h') → h' = h ∧ ∀ h2, h.le h2 → g as h2 = some (r, h2)

structure TOk (P : Program) (pu : Nat → Bool) (T : Nat → Option Fun) : Prop where
  code : ∀ f c, T f = some (.code c) → ∃ ow, compFn P pu ow f = some c
  prim : ∀ f p g, T f = some (.prim p g) → PrimOk P p f g ∧ (pu f = true → p = true) ∧ (pu (f + exb) = true → ∀ as h r h', (∀ i, h.nx ≤ i → h.blk i = none) → g as h = some (r, h') → h.le h')

theorem compFn_inv {ow : Nat → Nat → Bool} {f : Nat} {c : CFun} (e : compFn P pu ow f = some c) :
    ∃ fn code, P.funcs[rl f]? = some fn ∧ fn.body = some code ∧ (fn.name == "runtime.NumGoroutine") = false ∧ resTmps P fn.results.toList = some c.res ∧ c.body = compCode P pu (ow f) fn.ntmps code ∧ c.pure = pu f ∧ c.ext = pu (f + exb) := by
  unfold compFn at e
  split at e
  · rename_i fn hfn
    split at e
    · rename_i code r hb hr
      split at e
      · cases e
      · rename_i hn
        cases e
        exact ⟨fn, code, hfn, hb, by simpa using hn, hr, rfl, rfl, rfl⟩
    · cases e
  · cases e

theorem rounds_seq {c : Code} {cc : CCode} {Q : Exit → Act → World → Prop} {n : Nat} {e : EX}
    (hbody : ∀ m, m < n → ∀ s h e s' h', evC T m cc s h = some (e, s', h') → ∀ a w ρ I (Q : Exit → Act → World → Prop), FR ρ I w nt a s → SR ρ I h w →
      (∀ a' w' ρ' I', St ρ I h w ρ' I' h' w' → SR ρ' I' h' w' → FR ρ' I' w' nt a' s' → Q e.to a' w') → c.wp P Q a w) :
    ∀ m, m ≤ n → ∀ s h, evC T m (.loop cc) s h = some (e, s', h') → ∀ a w ρ I, FR ρ I w nt a s → SR ρ I h w →
      (∀ a' w' ρ' I', St ρ I h w ρ' I' h' w' → SR ρ' I' h' w' → FR ρ' I' w' nt a' s' → Q e.to a' w') → Code.rounds P c Q m a w := by
  intro m
  induction m with
  | zero => intro _ s h ev; cases ev
  | succ m ih =>
    intro hm s h ev a w ρ I hf hs hQ
    rw [rounds_succ]
    simp only [evC] at ev
    cases hb : evC T m cc s h with
    | none => simp [hb] at ev
    | some p =>
      obtain ⟨e1, s1, h1⟩ := p
      rw [hb] at ev
      refine hbody m (by omega) s h e1 s1 h1 hb a w ρ I _ hf hs fun a' w' ρ' I' st hs' hf' => ?_
      cases e1 with
      | nrm =>
        simp only at ev
        exact ih (by omega) s1 h1 ev a' w' ρ' I' hf' hs' fun a2 w2 ρ2 I2 st2 hs2 hf2 => hQ a2 w2 ρ2 I2 (st.trans st2) hs2 hf2
      | exit i => cases ev; exact hQ a' w' ρ' I' st hs' hf'
      | ret => cases ev; exact hQ a' w' ρ' I' st hs' hf'

/-- Code, given calls at every smaller amount of fuel. -/
theorem code_sound (n : Nat)
    (hok : ∀ m, m < n → CallOk P (callW T (evC T m)) ∧ PureOk pu (callW T (evC T m)) ∧ WfOk (callW T (evC T m))) :
    ∀ k, k ≤ n → ∀ (c : Code) (ow : Nat → Bool) (nt : Nat) (s : Fr) (h : AH) (e : EX) (s' : Fr) (h' : AH), evC T k (compCode P pu ow nt c) s h = some (e, s', h') →
    ∀ (a : Act) (w : World) (ρ : Nat → Option (Nat × Nat)) (I : Nat → Prop) (Q : Exit → Act → World → Prop), FR ρ I w nt a s → SR ρ I h w →
      (∀ a' w' ρ' I', St ρ I h w ρ' I' h' w' → SR ρ' I' h' w' → FR ρ' I' w' nt a' s' → Q e.to a' w') → c.wp P Q a w := by
  intro k
  induction k using Nat.strongRecOn with
  | _ k ih =>
    intro hk c ow nt
    cases k with
    | zero => intro s h e s' h' ev; cases ev
    | succ k =>
      induction c with
      | skip =>
        intro s h e s' h' ev a w ρ I Q hf hs hQ
        simp only [compCode, evC] at ev
        cases ev
        exact wp_skip (hQ a w ρ I .refl hs hf)
      | label l =>
        intro s h e s' h' ev a w ρ I Q hf hs hQ
        simp only [compCode, evC] at ev
        cases ev
        exact wp_label (hQ a w ρ I .refl hs hf)
      | exit id =>
        intro s h e s' h' ev a w ρ I Q hf hs hQ
        simp only [compCode, evC] at ev
        cases ev
        exact wp_exit (hQ a w ρ I .refl hs hf)
      | ret =>
        intro s h e s' h' ev a w ρ I Q hf hs hQ
        simp only [compCode, evC] at ev
        cases ev
        exact wp_ret (hQ a w ρ I .refl hs hf)
      | seq x y _ _ =>
        intro s h e s' h' ev a w ρ I Q hf hs hQ
        simp only [compCode, evC] at ev
        cases h1 : evC T k (compCode P pu ow nt x) s h with
        | none => simp [h1] at ev
        | some p =>
          obtain ⟨e1, s1, hh1⟩ := p
          rw [h1] at ev
          refine wp_seq (ih k (by omega) (by omega) x ow nt s h e1 s1 hh1 h1 a w ρ I _ hf hs fun a' w' ρ' I' st hs' hf' => ?_)
          cases e1 with
          | nrm =>
            simp only at ev
            exact ih k (by omega) (by omega) y ow nt s1 hh1 e s' h' ev a' w' ρ' I' Q hf' hs' fun a2 w2 ρ2 I2 st2 hs2 hf2 => hQ a2 w2 ρ2 I2 (st.trans st2) hs2 hf2
          | exit i => cases ev; exact hQ a' w' ρ' I' st hs' hf'
          | ret => cases ev; exact hQ a' w' ρ' I' st hs' hf'
      | cond c x y _ _ =>
        intro s h e s' h' ev a w ρ I Q hf hs hQ
        simp only [compCode] at ev
        cases ho : opd c with
        | none => simp [ho, evC] at ev
        | some C =>
          simp only [ho, evC] at ev
          have hv := opd_vr ho hf
          split at ev
          · rename_i hb
            rw [hb] at hv
            exact wp_cond_true hv.bool_inv (ih k (by omega) (by omega) x ow nt s h e s' h' ev a w ρ I Q hf hs hQ)
          · rename_i hb
            rw [hb] at hv
            exact wp_cond_false hv.bool_inv (ih k (by omega) (by omega) y ow nt s h e s' h' ev a w ρ I Q hf hs hQ)
          · cases ev
      | block id x _ =>
        intro s h e s' h' ev a w ρ I Q hf hs hQ
        simp only [compCode, evC] at ev
        cases h1 : evC T k (compCode P pu ow nt x) s h with
        | none => simp [h1] at ev
        | some p =>
          obtain ⟨e1, s1, hh1⟩ := p
          rw [h1] at ev
          refine wp_block (ih k (by omega) (by omega) x ow nt s h e1 s1 hh1 h1 a w ρ I _ hf hs fun a' w' ρ' I' st hs' hf' => ?_)
          cases e1 with
          | nrm => cases ev; exact hQ a' w' ρ' I' st hs' hf'
          | ret => cases ev; exact hQ a' w' ρ' I' st hs' hf'
          | exit i =>
            cases ev
            have := hQ a' w' ρ' I' st hs' hf'
            simp only [EX.to, Exit.inBlock]
            by_cases q : i = id
            · rw [if_pos q] at this ⊢; exact this
            · rw [if_neg q] at this ⊢; exact this
      | loop x _ =>
        intro s h e s' h' ev a w ρ I Q hf hs hQ
        simp only [compCode] at ev
        refine wp_loop_rounds (k + 1) (rounds_seq (T := T) (n := k + 1) (fun m hm s h e s' h' ev => ih m hm (by omega) x ow nt s h e s' h' ev) (k + 1) (Nat.le_refl _) s h ev a w ρ I hf hs hQ)
      | scope x ihx =>
        intro s h e s' h' ev a w ρ I Q hf hs hQ
        simp only [compCode] at ev
        refine wp_scope_straight (ihx s h e s' h' ev a w ρ I _ hf hs fun a' w' ρ' I' st hs' hf' => ?_)
        have := hQ a' w' ρ' I' st hs' hf'
        cases e <;> exact this
      | region id ops draw =>
        intro s h e s' h' ev a w ρ I Q hf hs hQ
        obtain ⟨c1, c2, c3⟩ := hok k (by omega)
        simp only [compCode] at ev
        split at ev
        · rename_i cops hcops
          obtain ⟨g1, g2⟩ := compOpers_get _ _ hcops
          have hcl : cops.length = ops.size := by simpa using g1
          have hpair : ∀ (i : Nat) o c, ops[i]? = some o → cops[i]? = some c → Pair P ow nt ops o c := fun i o c ho hc => g2 i o c (by simpa using ho) hc
          split at ev
          · rename_i hdr
            simp only [evC] at ev
            split at ev
            · rename_i s1 h1 hev
              cases ev
              have hseq : evSeq (callW T (evC T k)) cops (List.range ops.size) s h = some (s', h') := by
                have := evSeq_range (call := callW T (evC T k)) cops cops [] s h rfl
                rw [hev] at this
                rw [← hcl, List.range_eq_range']
                exact this.symm
              cases draw with
              | false => exact wp_region (wpOps_seq hcl hpair c1 _ a w ρ I s h hf hs hseq hQ)
              | true =>
                simp only [Bool.not_true, Bool.false_or, Bool.and_eq_true] at hdr
                obtain ⟨st, hs2⟩ : SR ρ I h w.drew ∧ St ρ I h w ρ I h w.drew := hs.drew
                refine wp_region_any hdr.2 (wpAny_seq hcl hpair c1 c2 c3 hdr.1 ops.size _ a w.drew ρ I s h (by simp) ?_ ?_ (hf.step hs hs2) st ?_ fun a' w' ρ' I' st2 hs3 hf3 => hQ a' w' ρ' I' (hs2.trans st2) hs3 hf3)
                · exact Nat.le_trans (List.length_filter_le _ _) (by simp)
                · intro i o hi
                  simp only [isL, Array.getD_eq_getD_getElem?, Array.getElem?_replicate] at hi
                  split at hi <;> simp at hi
                · have : remOf ops.size (Array.replicate ops.size false) = List.range ops.size := by
                    unfold remOf
                    rw [List.filter_eq_self]
                    intro j hj
                    simp only [isL, Array.getD_eq_getD_getElem?, Array.getElem?_replicate]
                    split <;> rfl
                  rw [this]
                  exact hseq
            · cases ev
          · simp [evC] at ev
        · simp [evC] at ev
      | _ => intro s h e s' h' ev; simp [compCode, evC] at ev
end
end Go.Ev

/- Each operation of the abstract machine stands for the machine's own: the assembly. -/
import Derived.Test.YtpdgjdnipkmocaaEvM
set_option linter.unusedVariables false
set_option linter.unusedSimpArgs false
namespace Go.Ev
section
variable {P : Program} {ρ : Nat → Option (Nat × Nat)} {I : Nat → Prop} {h h' : AH} {w : World} {nt : Nat} {a : Act} {s : Fr} {u u' : Value} {v X Y : PV}
  {call : Nat → List PV → AH → Option (PV × AH)}

theorem opd_map {x : Operand} {f : Opd → COp} {c : COp} (e : (opd x).map f = some c) : ∃ X, opd x = some X ∧ c = f X := by
  simp only [Option.map_eq_some_iff] at e
  obtain ⟨X, h1, h2⟩ := e
  exact ⟨X, h1, h2.symm⟩

theorem bin_out {o : Oper} {op : BinOp} {t t' : TypeId} {x y : Operand} {c : COp} (hs : SR ρ I h w) (hf : FR ρ I w nt a s) (ho : o.op = .binOp op t x y t') (hc : compBin P op t x y = some c) (ev : evOp call c s h = some (v, h')) :
    Out ρ I h w v h' ((execOp a.eval o).run P w) := by
  unfold compBin at hc
  split at hc
  · rename_i X Y hX hY
    have hx := opd_vr hX hf
    have hy := opd_vr hY hf
    simp only [execOp, ho]
    by_cases hop : op = .eql ∨ op = .neq
    · rw [if_pos hop] at hc
      split at hc
      · cases hc
        obtain ⟨e, rfl⟩ := keep_inv ev
        obtain ⟨r1, r2⟩ := bin_ok (P := P) (t := t) (x := x) (y := y) e hx hy
        exact outS r1 hs r2
      · cases hc
        obtain ⟨e, rfl⟩ := keep_inv ev
        obtain ⟨r1, r2⟩ := bin_ok (P := P) (t := t) (x := x) (y := y) e hx hy
        exact outS r1 hs r2
      · rename_i hu
        cases hc
        obtain ⟨e, rfl⟩ := keep_inv ev
        split at e
        · rename_i b c hb hb'
          rw [hb] at hx
          rw [hb'] at hy
          cases e
          obtain ⟨r, r1, r2⟩ := eqb_ok (P := P) (x := x) (y := y) hop hu hx hy
          exact outS r1 hs r2
        · cases e
      · rename_i fs hu
        split at hc
        · rename_i hfl
          cases hc
          obtain ⟨e, rfl⟩ := keep_inv ev
          split at e
          · rename_i b c hb hb'
            rw [hb] at hx
            rw [hb'] at hy
            simp only [Option.map_eq_some_iff] at e
            obtain ⟨r, e1, rfl⟩ := e
            exact outS (eqs_ok (P := P) (x := x) (y := y) hop hu hfl hx hy e1) hs (.bool _)
          · cases e
        · cases hc
      · simp only [Option.map_eq_some_iff] at hc
        obtain ⟨k, hk, rfl⟩ := hc
        obtain ⟨e, rfl⟩ := keep_inv ev
        simp only [Option.map_eq_some_iff] at e
        obtain ⟨r, e1, rfl⟩ := e
        exact outS (isnil_ok (P := P) (x := x) hop hk hx e1) hs (.bool _)
    · rw [if_neg hop] at hc
      cases hc
      obtain ⟨e, rfl⟩ := keep_inv ev
      obtain ⟨r1, r2⟩ := bin_ok (P := P) (t := t) (x := x) (y := y) e hx hy
      exact outS r1 hs r2
  · cases hc

/-- An operation that is no call of a function. -/
def COp.notCall : COp → Bool
  | .call _ _ | .callv _ _ => false
  | _ => true

def lenT (P : Program) (t : TypeId) : Nat → Prop
  | 0 => P.underlying t = some .string
  | 1 => ∃ e, P.underlying t = some (.slice e)
  | 2 => ∃ k e, P.underlying t = some (.map k e)
  | _ => False

theorem len_ok {t : TypeId} {ty : TypeId} {k : Nat} (hs : SR ρ I h w) (ht : lenT P t k) (hx : VR ρ I w u X) (e : evLen h k X = some v) : (Builtin.len_ #[t] ty #[u]).run P w = .ok (conc v) w ∧ VR ρ I w (conc v) v := by
  unfold evLen at e
  split at e
  · rw [hx.str_inv]; cases e
    have hu : P.underlying t = some .string := ht
    exact ⟨by simp [Builtin.len_, run_underlying hu, goInt, conc], .int _ _⟩
  · cases e
    obtain ⟨e', hu⟩ : ∃ e, P.underlying t = some (.slice e) := ht
    cases hx
    exact ⟨by simp [Builtin.len_, run_underlying hu, goInt, conc], .int _ _⟩
  · cases e
    obtain ⟨e', hu⟩ : ∃ e, P.underlying t = some (.slice e) := ht
    cases hx
    exact ⟨by simp [Builtin.len_, run_underlying hu, goInt, conc], .int _ _⟩
  · cases e
    obtain ⟨e', hu⟩ : ∃ e, P.underlying t = some (.slice e) := ht
    cases hx <;> exact ⟨by simp [Builtin.len_, run_underlying hu, goInt, conc], .int _ _⟩
  · cases e
    obtain ⟨k', e', hu⟩ : ∃ k e, P.underlying t = some (.map k e) := ht
    cases hx
    exact ⟨by simp [Builtin.len_, run_underlying hu, goInt, conc], .int _ _⟩
  · rename_i i
    obtain ⟨k', e', hu⟩ : ∃ k e, P.underlying t = some (.map k e) := ht
    split at e
    · rename_i es hbk
      cases e
      cases hx with
      | mp hρ =>
        obtain ⟨M, clock, g1, g2, g3⟩ := own_map hs hbk hρ
        exact ⟨by simp [Builtin.len_, run_underlying hu, Go.MapKept.run_getObj_map g1, goInt, conc, g2], .int _ _⟩
    · cases e
  · cases e

theorem clear_ok {t e : TypeId} {z : Nat} {zs : List PV} {ty : TypeId} (hs : SR ρ I h w) (hu : P.underlying t = some (.slice e)) (hz : szT P e = some z) (hzc : zeroCells P e = some zs) (hx : VR ρ I w u X)
    (ev : evClear h z zs X = some (v, h')) : ∃ w', (Builtin.clear_ #[t] ty #[u]).run P w = .ok (.tuple #[]) w' ∧ SR ρ I h' w' ∧ St ρ I h w ρ I h' w' ∧ v = .tup [] := by
  obtain ⟨zv, z1, z2⟩ := zeroCells_inv hzc
  have hzv : VRA ρ I w zv.cells zs := zero_vra z2
  have nothing : ∀ A : Option Addr, (Builtin.clear_ #[t] ty #[.slice A 0 0]).run P w = .ok (.tuple #[]) w := by
    intro A
    cases A <;> simp [Builtin.clear_, run_underlying hu]
  unfold evClear at ev
  cases X with
  | emp =>
    cases ev
    cases hx
    exact ⟨w, nothing _, hs, .refl, rfl⟩
  | rf z' i o n =>
    simp only at ev
    cases hr : h.row i with
    | none => simp [hr] at ev
    | some cs =>
      simp only [hr] at ev
      split at ev
      · rename_i hc
        obtain ⟨rfl, hle, hzl⟩ := hc
        cases ev
        cases hx with
        | rf0 =>
          have heq : h.set i (.cells (splice cs o (List.replicate 0 zs).flatten)) = h := by
            apply AH.ext'
            · rfl
            · rfl
            · intro j
              rw [AH.set_blk]
              by_cases q : j = i
              · rw [if_pos q, q, row_blk hr]
                simp [splice]
              · rw [if_neg q]
          rw [heq]
          exact ⟨w, nothing _, hs, .refl, rfl⟩
        | rf hρ hn hw hc =>
          rename_i b o' c C T f
          obtain ⟨C2, T2, g1, g2, g3, g4⟩ := own_row hs (row_blk hr) hρ
          rw [hw] at g1
          cases g1
          by_cases hn0 : n = 0
          · subst hn0
            have heq : h.set i (.cells (splice cs o (List.replicate 0 zs).flatten)) = h := by
              apply AH.ext'
              · rfl
              · rfl
              · intro j
                rw [AH.set_blk]
                by_cases q : j = i
                · rw [if_pos q, q, row_blk hr]
                  simp [splice]
                · rw [if_neg q]
            rw [heq]
            exact ⟨w, by simp [Builtin.clear_, run_underlying hu], hs, .refl, rfl⟩
          · by_cases hz0 : z' = 0
            · have hzn : zs = [] := List.eq_nil_of_length_eq_zero (by omega)
              have hv0 : zv.cells.size = 0 := by rw [hzv.1, hzn]; rfl
              have heq : h.set i (.cells (splice cs o (List.replicate n zs).flatten)) = h := by
                apply AH.ext'
                · rfl
                · rfl
                · intro j
                  rw [AH.set_blk]
                  by_cases q : j = i
                  · rw [if_pos q, q, row_blk hr]
                    simp [splice, hzn]
                  · rw [if_neg q]
              rw [heq]
              refine ⟨w, ?_, hs, .refl, rfl⟩
              have : (Builtin.zeroCells zv.cells n) = #[] := by simp [Builtin.zeroCells, hv0]
              obtain ⟨m, rfl⟩ := Nat.exists_eq_succ_of_ne_zero hn0
              simp [Builtin.clear_, run_underlying hu, run_zeroValue z1, this, storeCells]
            · have hr2 := reps_vra (n := n) hzv (by omega)
              have hsz : zv.cells.size = zs.length := hzv.1
              have hzc' : Builtin.zeroCells zv.cells n = (Array.range (n * zs.length)).map fun i => zv.cells[i % zv.cells.size]! := by rw [Builtin.zeroCells, hsz]
              have hmul : n * z' ≤ c * z' := Nat.mul_le_mul_right _ hn
              obtain ⟨w', e1, e2, e3⟩ := write_ok (P := P) (k := o) (ds := (List.replicate n zs).flatten) (vs := (Builtin.zeroCells zv.cells n).toList) hs (row_blk hr) hρ hw (by omega) (by rw [hzc']; simp) (by rw [hzc']; simp [hzl]; omega)
                (fun j hj => by have := hr2.2.1 j hj; rw [← hzc'] at this; simpa [Array.getD_eq_getD_getElem?] using this) hr2.2.2
              refine ⟨w', ?_, e2, e3, rfl⟩
              obtain ⟨m, rfl⟩ := Nat.exists_eq_succ_of_ne_zero hn0
              simp [Builtin.clear_, run_underlying hu, run_zeroValue z1, e1]
      · cases ev
  | _ => simp at ev

theorem del_ok {t kt et : TypeId} {ty : TypeId} (hs : SR ρ I h w) (hm : P.underlying t = some (.map kt et)) (hb : isBasic P kt = true) (hx : VR ρ I w u X) (hy : VR ρ I w u' Y)
    (ev : evDel h (kindT P kt) X Y = some (v, h')) : ∃ w', (Builtin.delete_ #[t] ty #[u, u']).run P w = .ok (.tuple #[]) w' ∧ SR ρ I h' w' ∧ St ρ I h w ρ I h' w' ∧ v = .tup [] := by
  have hd : ∃ d, P.underlying kt = some d := by
    cases e : P.underlying kt with
    | none => simp [isBasic, e] at hb
    | some d => exact ⟨d, rfl⟩
  obtain ⟨d, hd⟩ := hd
  unfold evDel at ev
  cases X with
  | nilm =>
    simp only at ev
    split at ev
    · rename_i hk
      cases ev
      cases hx
      have ck : (Instr.checkKey true 10000 kt u').run P w = .ok () w := checkKey_ok (n := 9999) hb hk hy true
      exact ⟨w, by simp [Builtin.delete_, run_underlying hm, ck], hs, .refl, rfl⟩
    · cases ev
  | mp i =>
    simp only at ev
    cases hbk : h.blk i with
    | none => simp [hbk] at ev
    | some B =>
      cases B with
      | cells cs => simp [hbk] at ev
      | map es =>
        simp only [hbk] at ev
        split at ev
        · rename_i hk
          have ck : ∀ e, (Instr.checkKey e 10000 kt u').run P w = .ok () w := fun e => checkKey_ok (n := 9999) hb hk hy e
          cases hx with
          | mp hρ =>
            rename_i b o
            obtain ⟨M, clock, g1, g2, g3⟩ := own_map hs hbk hρ
            have wr : ∀ (M' : Array MapEntry) (c' : Nat) (es' : List (PV × PV)), M'.size = es'.length → (∀ j (hj : j < es'.length) (hj' : j < M'.size), VR ρ I w M'[j].key es'[j].1 ∧ VR ρ I w M'[j].val es'[j].2) →
                SR ρ I (h.set i (.map es')) { w with heap := w.heap.setIfInBounds b (.map M' c') } ∧ St ρ I h w ρ I (h.set i (.map es')) { w with heap := w.heap.setIfInBounds b (.map M' c') } := by
              intro M' c' es' e1 e2
              refine hs.wrote (by rw [hbk]; simp) hρ rfl rfl rfl (by simp) (fun q hq => (Go.MapKept.heap_set g1).2 q hq) (fun C T f e => by rw [g1] at e; cases e) fun st => ?_
              exact ⟨M', c', (Go.MapKept.heap_set g1).1, e1, fun j hj hj' => ⟨(e2 j hj hj').1.step hs st, (e2 j hj hj').2.step hs st⟩⟩
            cases hf : findK Y es 0 with
            | none => simp [hf] at ev
            | some r =>
              have hfind := findNow_ok (P := P) hd hb hk hy es M.toList 0 r (by simpa using g2) (fun j hj hj' => by simpa using g3 j hj (by simpa using hj')) hf
              rcases hfind with ⟨rfl, q2⟩ | ⟨j, x, y, e, rfl, q2, q3, q4, q5⟩
              · simp only [hf] at ev
                cases ev
                obtain ⟨k1, k2⟩ := wr M clock es g2 g3
                have heq : h.set i (.map es) = h := by
                  apply AH.ext'
                  · rfl
                  · rfl
                  · intro j
                    rw [AH.set_blk]
                    by_cases q : j = i
                    · rw [if_pos q, q, hbk]
                    · rw [if_neg q]
                rw [heq] at k1 k2
                refine ⟨_, ?_, k1, k2, rfl⟩
                simp [Builtin.delete_, run_underlying hm, Go.MapKept.run_getObj_map g1, ck, Go.MapKept.run_findKey (P := P) (w := w) hd q2, Go.MapKept.run_setObj_map _ g1]
              · simp only [hf] at ev
                cases ev
                have hjl : j < M.size := by
                  have := (List.getElem?_eq_some_iff.1 q4).1
                  simpa using this
                have hME : M.eraseIdxIfInBounds j = M.eraseIdx j hjl := by unfold Array.eraseIdxIfInBounds; rw [dif_pos hjl]
                obtain ⟨k1, k2⟩ := wr (M.eraseIdxIfInBounds j) clock (es.eraseIdx j) (by rw [hME, Array.size_eraseIdx, List.length_eraseIdx_of_lt (by omega), g2]) (fun k hk' hk'' => by
                  have hk3 : k < M.size - 1 := by rw [hME, Array.size_eraseIdx] at hk''; exact hk''
                  have e1 : (M.eraseIdxIfInBounds j)[k] = if k < j then M[k] else M[k + 1] := by
                    simp only [hME, Array.getElem_eraseIdx]
                    split <;> rfl
                  have e2 : (es.eraseIdx j)[k] = if hkj : k < j then es[k]'(by omega) else es[k + 1]'(by omega) := by
                    rw [List.getElem_eraseIdx]
                  rw [e1, e2]
                  by_cases q : k < j
                  · rw [if_pos q, dif_pos q]; exact g3 k (by omega) (by omega)
                  · rw [if_neg q, dif_neg q]; exact g3 (k + 1) (by omega) (by omega))
                simp only [Nat.zero_add]
                refine ⟨_, ?_, k1, k2, by first | rfl | trivial⟩
                simp [Builtin.delete_, run_underlying hm, Go.MapKept.run_getObj_map g1, ck, Go.MapKept.run_findKey (P := P) (w := w) hd q2, Go.MapKept.run_setObj_map _ g1]
        · cases ev
  | _ => simp at ev

/-- Every operation but a call. -/
theorem op_out {o : Oper} {c : COp} {ow : Bool} (hc : compOp P ow o.op = some c) (hf : FR ρ I w nt a s) (hs : SR ρ I h w) (ev : evOp call c s h = some (v, h')) (hn : ∀ c', o.op = .call c' → c.notCall = true) : Out ρ I h w v h' ((execOp a.eval o).run P w) := by
  cases ho : o.op with
  | move x =>
    rw [ho] at hc
    obtain ⟨X, hX, rfl⟩ := opd_map hc
    cases ev
    exact .same (by simp [execOp, ho]) hs (opd_vr hX hf)
  | assign x =>
    rw [ho] at hc
    obtain ⟨X, hX, rfl⟩ := opd_map hc
    cases ev
    exact .same (by simp [execOp, ho]) hs (opd_vr hX hf)
  | pick x y z =>
    rw [ho] at hc
    simp only [compOp] at hc
    split at hc
    · rename_i X Y Z hX hY hZ
      cases hc
      simp only [evOp] at ev
      split at ev
      · rename_i t ht
        cases ev
        have hx := opd_vr hX hf
        rw [ht] at hx
        have hb := hx.bool_inv
        refine .same (u := if t then a.eval y else a.eval z) ?_ hs ?_
        · simp only [execOp, ho, hb, asBool]
          cases t <;> simp
        · cases t
          · exact opd_vr hZ hf
          · exact opd_vr hY hf
      · cases ev
    · cases hc
  | alloc t =>
    rw [ho] at hc
    simp only [compOp, Option.map_eq_some_iff] at hc
    obtain ⟨zs, hz, rfl⟩ := hc
    obtain ⟨z, z1, z2⟩ := zeroCells_inv hz
    cases ev
    simp only [execOp, ho]
    exact alloc_out hs z1 z2
  | box t x =>
    rw [ho] at hc
    simp only [compOp] at hc
    obtain ⟨X, hX, hc⟩ := opd_map hc
    simp only [execOp, ho]
    cases ow with
    | true =>
      simp only [if_true] at hc
      subst hc
      simp only [evOp] at ev
      split at ev
      · rename_i hk
        cases ev
        exact box_out hs (opd_vr hX hf) hk
      · cases ev
    | false =>
      simp only [Bool.false_eq_true, if_false] at hc
      subst hc
      simp only [evOp] at ev
      split at ev
      · rename_i hk
        cases ev
        exact boxi_out hs (opd_vr hX hf) hk
      · cases ev
  | build t parts =>
    rw [ho] at hc
    simp only [compOp] at hc
    simp only [execOp, ho]
    split at hc
    · rename_i zs fs hz hu
      simp only [Option.bind_eq_some_iff] at hc
      obtain ⟨ps, hp, hc⟩ := hc
      split at hc
      · rename_i hall
        cases hc
        obtain ⟨e, rfl⟩ := keep_inv ev
        simp only [Option.map_eq_some_iff] at e
        obtain ⟨cs, e1, rfl⟩ := e
        obtain ⟨C, c1, c2⟩ := build_struct (P := P) hf hu hz hall hp e1
        exact outS c1 hs c2.agg
      · cases hc
    · rename_i zs n e hz hu
      split at hc
      · rename_i z hz'
        simp only [Option.map_eq_some_iff] at hc
        obtain ⟨ps, hp, rfl⟩ := hc
        obtain ⟨e, rfl⟩ := keep_inv ev
        simp only [Option.map_eq_some_iff] at e
        obtain ⟨cs, e1, rfl⟩ := e
        obtain ⟨C, c1, c2⟩ := build_array (P := P) hf hu hz hz' hp e1
        exact outS c1 hs c2.agg
      · cases hc
    · cases hc
  | buildSlice t n parts =>
    rw [ho] at hc
    simp only [compOp] at hc
    simp only [execOp, ho]
    split at hc
    · rename_i e hu
      split at hc
      · rename_i z zs hz hzc
        split at hc
        · rename_i hcond
          simp only [Option.map_eq_some_iff] at hc
          obtain ⟨ps, hp, hc⟩ := hc
          cases ow with
          | true =>
            simp only [if_true] at hc
            subst hc
            simp only [evOp] at ev
            split at ev
            · rename_i cs hcs
              cases ev
              obtain ⟨C, c1, c2⟩ := bslice_out (P := P) hs hf hu hz hzc hcond hp hcs
              obtain ⟨g1, g2⟩ := hs.alloc (T := e) (C := C) (cs := cs) (Nat.le_of_eq c2.1.symm) c2.2.1 c2.2.2
              refine outN c1 g2 g1 ?_
              have hlen : C.size = n * z := by
                rw [c2.1]
                have : ∀ (l : List (Nat × Nat × PV)) (xs ys : List PV), fillP xs l = some ys → ys.length = xs.length := by
                  intro l
                  induction l with
                  | nil => intro xs ys e; cases e; rfl
                  | cons p l ih =>
                    intro xs ys e
                    obtain ⟨off, n, x⟩ := p
                    simp only [fillP] at e
                    split at e
                    · rename_i hc
                      rw [ih _ _ e, splice_len (by omega)]
                    · cases e
                rw [this _ _ _ hcs]
                simp [hcond.2.1]
              have : VR (upd ρ h.nx (w.heap.size, 0)) I (w.alloc (.cells C e)) (.slice (some ⟨w.heap.size, 0 + 0, none⟩) n n) (.rf z h.nx 0 n) :=
                .rf (by simp [upd]) (Nat.le_refl _) (heap_alloc_new w _) (by omega)
              simpa using this
            · cases ev
          | false =>
            simp only [Bool.false_eq_true, if_false] at hc
            subst hc
            obtain ⟨e', rfl⟩ := keep_inv ev
            simp only [Option.map_eq_some_iff] at e'
            obtain ⟨cs, hcs, rfl⟩ := e'
            obtain ⟨C, c1, c2⟩ := bslice_out (P := P) hs hf hu hz hzc hcond hp hcs
            obtain ⟨g1, g2⟩ := hs.allocI (.cells C e)
            refine outN c1 g2 g1 ?_
            by_cases hn0 : n = 0
            · rw [if_pos hn0, hn0]; exact .emp
            · rw [if_neg hn0]
              refine .sl (fun j => C.getD j undef) (Nat.le_refl _) (fun _ => ⟨w.heap.size, 0, rfl, .inr rfl, fun j hj => ?_⟩) (fun j hj => (c2.2.1 j hj).step hs g2) c2.2.2
              rw [Nat.zero_add, World.cell?_alloc_new]
              have := c2.1
              simp [Array.getD, show j < C.size by omega]
        · cases hc
      · cases hc
    · cases hc
  | load t x =>
    rw [ho] at hc
    simp only [compOp] at hc
    split at hc
    · rename_i g n X hg hz hX
      cases hc
      obtain ⟨e, rfl⟩ := keep_inv ev
      simp only [execOp, ho]
      obtain ⟨x', r1, r2⟩ := load_ok (P := P) hg hz hs (opd_vr hX hf) e
      exact outS r1 hs r2
    · cases hc
  | store t x y =>
    rw [ho] at hc
    simp only [compOp] at hc
    split at hc
    · rename_i n X Y hz hX hY
      cases hc
      simp only [evOp] at ev
      split at ev
      · rename_i h2 hw
        cases ev
        simp only [execOp, ho]
        obtain ⟨w', r1, r2, r3⟩ := store_ok (P := P) hs hz (opd_vr hX hf) (opd_vr hY hf) hw
        exact outU r1 r3 r2
      · cases ev
    · cases hc
  | nilCheck x =>
    rw [ho] at hc
    obtain ⟨X, hX, rfl⟩ := opd_map hc
    simp only [evOp] at ev
    split at ev
    · rename_i hnil
      cases ev
      exact .same (nilchk_ok ho hnil (opd_vr hX hf)) hs (opd_vr hX hf)
    · cases ev
  | binOp op t x y t' =>
    rw [ho] at hc
    exact bin_out hs hf ho hc ev
  | unOp op t x =>
    rw [ho] at hc
    obtain ⟨X, hX, rfl⟩ := opd_map hc
    obtain ⟨e, rfl⟩ := keep_inv ev
    simp only [execOp, ho]
    obtain ⟨r1, r2⟩ := un_ok (P := P) e (opd_vr hX hf)
    exact outS r1 hs r2
  | convert p q x =>
    rw [ho] at hc
    simp only [compOp] at hc
    simp only [execOp, ho]
    split at hc
    · rename_i k1 k X h1 h2 hX
      cases hc
      obtain ⟨e, rfl⟩ := keep_inv ev
      split at e
      · rename_i k' n hn'
        have hx := opd_vr hX hf
        rw [hn'] at hx
        have hi := hx.int_inv
        cases e
        refine outS (x := .int k (k.wrap n)) ?_ hs (.int _ _)
        rw [hi]
        simp [convert, run_underlying h1, run_underlying h2, Conv.intToInt]
      · cases e
    · rename_i X h1 h2 hX
      cases hc
      obtain ⟨e, rfl⟩ := keep_inv ev
      split at e
      · rename_i b hb'
        have hx := opd_vr hX hf
        rw [hb'] at hx
        have hi := hx.str_inv
        cases e
        refine outS (x := .string b) ?_ hs (.str _)
        rw [hi]
        simp [convert, run_underlying h1, run_underlying h2]
      · cases e
    · cases hc
  | makeFunc f first cap =>
    rw [ho] at hc
    cases f with
    | func f =>
      simp only [compOp] at hc
      split at hc
      · rename_i fs cs h1 h2
        cases hc
        cases ev
        simp only [execOp, ho]
        obtain ⟨a1, a2⟩ := opds_vr _ _ h1 hf
        obtain ⟨b1, b2⟩ := opds_vr _ _ h2 hf
        refine outS (x := .func (.func f) (first.map a.eval) (cap.map a.eval)) (by simp [Instr.makeFunc]) hs (.fn ?_ ?_ (fun j hj => ?_) (fun j hj => ?_))
        · simpa using a1
        · simpa using b1
        · have := a2 j hj; simpa [Array.getD_eq_getD_getElem?] using this
        · have := b2 j hj; simpa [Array.getD_eq_getD_getElem?] using this
      · cases hc
    | _ => simp [compOp] at hc
  | makeMap t r =>
    rw [ho] at hc
    cases r with
    | some x => simp [compOp] at hc
    | none =>
      simp only [compOp] at hc
      cases hc
      cases ev
      simp only [execOp, ho]
      obtain ⟨g1, g2⟩ := hs.new (w' := w.alloc (.map #[] 0)) (B := .map []) rfl rfl rfl (World.size_alloc _ _) (fun b hb => RowKit.Below.heap_alloc _ _ _ hb)
        fun st => ⟨#[], 0, heap_alloc_new _ _, rfl, fun j hj => absurd hj (Nat.not_lt_zero _)⟩
      refine outN (x := .map (some w.heap.size)) (w' := w.alloc (.map #[] 0)) (by simp [Instr.makeMap]) g2 g1 (.mp (o := 0) (by simp [upd]))
  | makeSlice t l c =>
    rw [ho] at hc
    simp only [compOp] at hc
    simp only [execOp, ho]
    split at hc
    · rename_i e hu
      split at hc
      · rename_i z b zs L C hz hb hzc hL hC
        split at hc
        · rename_i hcond
          cases hc
          simp only [evOp] at ev
          split at ev
          · rename_i l' c' h1 h2
            split at ev
            · rename_i hok
              cases ev
              have hl := opd_vr hL hf
              have hc' := opd_vr hC hf
              rw [h1] at hl
              rw [h2] at hc'
              rw [hl.int_inv, hc'.int_inv]
              obtain ⟨r, w', ρ', I', r1, r2, r3, r4⟩ := mkslice_ok (P := P) hs hu hz hb hzc hcond hok
              exact outN r1 r2 r3 r4
            · cases ev
          · cases ev
        · cases hc
      · cases hc
    · cases hc
  | slice t x lo hi mx =>
    rw [ho] at hc
    simp only [compOp] at hc
    simp only [execOp, ho]
    split at hc
    · rename_i e X Lo Hi Mx hu hX hlo hhi hmx
      simp only [Option.map_eq_some_iff] at hc
      obtain ⟨z, hz, rfl⟩ := hc
      obtain ⟨ev', rfl⟩ := keep_inv ev
      cases mx with
      | none =>
        simp [opdO] at hmx
        subst hmx
        obtain ⟨r, r1, r2⟩ := slice2_ok (P := P) hu hz hlo hhi hf (opd_vr hX hf) ev'
        exact outS r1 hs r2
      | some y =>
        simp only [opdO, Option.map_eq_some_iff] at hmx
        obtain ⟨Y, hY, rfl⟩ := hmx
        obtain ⟨r, r1, r2⟩ := slice3_ok (P := P) hu hz hlo hhi hY hf (opd_vr hX hf) ev'
        exact outS r1 hs r2
    · rename_i X Lo Hi hu hX hlo hhi hmx
      cases hc
      obtain ⟨ev', rfl⟩ := keep_inv ev
      cases mx with
      | none =>
        obtain ⟨r, r1, r2⟩ := slstr_ok (P := P) hu hlo hhi hf (opd_vr hX hf) ev'
        exact outS r1 hs r2
      | some y =>
        simp only [opdO, Option.map_eq_some_iff] at hmx
        obtain ⟨Y, hY, hc⟩ := hmx
        cases hc
    · cases hc
  | fieldAddr t x i =>
    rw [ho] at hc
    simp only [compOp] at hc
    simp only [execOp, ho]
    split at hc
    · rename_i fs X hu hX
      split at hc
      · rename_i f hfi
        split at hc
        · rename_i n hn'
          split at hc
          · cases hc
          · rename_i h0
            cases hc
            obtain ⟨e, rfl⟩ := keep_inv ev
            obtain ⟨b, o', p1, p2⟩ := ptr_add (opd_vr hX hf) e
            rw [p1]
            exact outS (field_run (P := P) hu hfi hn' h0) hs p2
        · cases hc
      · cases hc
    · cases hc
  | field t x i =>
    rw [ho] at hc
    simp only [compOp] at hc
    simp only [execOp, ho]
    split at hc
    · rename_i fs X hu hX
      split at hc
      · rename_i f hfi
        split at hc
        · rename_i g n hg hn'
          cases hc
          obtain ⟨e, rfl⟩ := keep_inv ev
          split at e
          · rename_i cs hcs
            have hx := opd_vr hX hf
            rw [hcs] at hx
            obtain ⟨C, r, r1, r2, r3⟩ := part_ok (P := P) hg hn' hx e
            rw [r1]
            refine outS (x := r) ?_ hs r3
            simp [Instr.field, run_underlying hu, hfi, asAgg, r2]
          · cases e
        · cases hc
      · cases hc
    · cases hc
  | indexAddr t x i =>
    rw [ho] at hc
    simp only [compOp] at hc
    simp only [execOp, ho]
    split at hc
    · rename_i e X J hu hX hJ
      simp only [Option.map_eq_some_iff] at hc
      obtain ⟨z, hz, rfl⟩ := hc
      obtain ⟨e', rfl⟩ := keep_inv ev
      split at e'
      · rename_i k j hj'
        have hx := opd_vr hX hf
        have hj := opd_vr hJ hf
        rw [hj'] at hj
        rw [hj.int_inv]
        generalize X.val s = XV at hx e'
        generalize a.eval x = ux at hx
        cases XV with
        | sl n cs =>
          simp only [evIdx] at e'
          split at e'
          · rename_i hb
            obtain ⟨b1, b2, b3, b4⟩ := hb
            cases e'
            cases hx with
            | sl us hn hA hv ho' =>
              rename_i A c
              have hcs : cs ≠ [] := by
                rintro rfl
                simp only [List.length_nil] at b3
                rcases Nat.mul_eq_zero.1 b3.symm with q | q <;> omega
              obtain ⟨b, o', rfl, hI, hc⟩ := hA hcs
              refine outS (idx_run (P := P) (c := c) hu hz b1 b2) hs (.pi (fun q => us (j.toNat * z + q)) hI (fun q hq => ?_) (fun q hq => ?_) (fun y hy => ho' y (List.mem_of_mem_drop hy)))
              · rw [List.length_drop] at hq
                rw [Nat.add_assoc]
                exact hc _ (by omega)
              · rw [List.getElem_drop]
                exact hv _ _
          · cases e'
        | rf z' b' o' n =>
          simp only [evIdx] at e'
          split at e'
          · rename_i hb
            obtain ⟨b1, b2, rfl⟩ := hb
            cases e'
            cases hx with
            | rf hρ hn hw hc =>
              refine outS (idx_run (P := P) hu hz b1 b2) hs ?_
              rw [Nat.add_assoc]
              exact .pt hρ
            | rf0 => omega
          · cases e'
        | _ => simp [evIdx] at e'
      · cases e'
    · rename_i n e X J hu hX hJ
      simp only [Option.map_eq_some_iff] at hc
      obtain ⟨z, hz, rfl⟩ := hc
      obtain ⟨e', rfl⟩ := keep_inv ev
      split at e'
      · rename_i k j hj'
        split at e'
        · rename_i hb
          have hj := opd_vr hJ hf
          rw [hj'] at hj
          rw [hj.int_inv]
          obtain ⟨b, o', p1, p2⟩ := ptr_add (opd_vr hX hf) e'
          rw [p1]
          exact outS (idxp_run (P := P) hu hz hb.1 hb.2) hs p2
        · cases e'
      · cases e'
    · cases hc
  | index t x i =>
    rw [ho] at hc
    simp only [compOp] at hc
    simp only [execOp, ho]
    split at hc
    · rename_i n e X J hu hX hJ
      split at hc
      · rename_i g z hg hz
        cases hc
        obtain ⟨e', rfl⟩ := keep_inv ev
        split at e'
        · rename_i cs k j hx' hj'
          split at e'
          · rename_i hb
            have hx := opd_vr hX hf
            have hj := opd_vr hJ hf
            rw [hx'] at hx
            rw [hj'] at hj
            rw [hj.int_inv]
            obtain ⟨C, r, r1, r2, r3⟩ := part_ok (P := P) hg hz hx e'
            rw [r1]
            refine outS (x := r) ?_ hs r3
            simp [Instr.index, asIntOf, run_underlying hu, hb.1, hb.2, run_sizeOf hz, r2]
          · cases e'
        · cases e'
      · cases hc
    · rename_i X J hu hX hJ
      cases hc
      obtain ⟨e', rfl⟩ := keep_inv ev
      split at e'
      · rename_i b k j hx' hj'
        split at e'
        · rename_i h0
          split at e'
          · rename_i c hcb
            cases e'
            have hx := opd_vr hX hf
            have hj := opd_vr hJ hf
            rw [hx'] at hx
            rw [hj'] at hj
            rw [hj.int_inv, hx.str_inv]
            refine outS (x := .int .u8 c.toNat) ?_ hs (.int _ _)
            simp [Instr.index, asIntOf, run_underlying hu, h0, hcb]
          · cases e'
        · cases e'
      · cases e'
    · cases hc
  | lookup t m k ok =>
    rw [ho] at hc
    simp only [compOp] at hc
    simp only [execOp, ho]
    split at hc
    · rename_i kt et M K hu hM hK
      split at hc
      · rename_i hb
        simp only [Option.map_eq_some_iff, Option.bind_eq_some_iff] at hc
        obtain ⟨zp, ⟨zv, hz, hzp⟩, rfl⟩ := hc
        obtain ⟨e', rfl⟩ := keep_inv ev
        obtain ⟨r, r1, r2⟩ := lkp_ok (P := P) (ok := ok) hs hu hb hz hzp (opd_vr hM hf) (opd_vr hK hf) e'
        exact outS r1 hs r2
      · cases hc
    · cases hc
  | mapUpdate t m k x =>
    rw [ho] at hc
    simp only [compOp] at hc
    simp only [execOp, ho]
    split at hc
    · rename_i kt et M K V hu hM hK hV
      split at hc
      · rename_i hb
        cases hc
        obtain ⟨w', r1, r2, r3, rfl⟩ := upd_ok (P := P) hs hu hb (opd_vr hM hf) (opd_vr hK hf) (opd_vr hV hf) ev
        exact outU r1 r3 r2
      · cases hc
    · cases hc
  | insert t m k x =>
    rw [ho] at hc
    simp only [compOp] at hc
    simp only [execOp, ho]
    split at hc
    · rename_i kt et M K V hu hM hK hV
      split at hc
      · rename_i hb
        cases hc
        obtain ⟨w', r1, r2, r3, rfl⟩ := upd_ok (P := P) hs hu hb (opd_vr hM hf) (opd_vr hK hf) (opd_vr hV hf) ev
        exact outU r1 r3 r2
      · cases hc
    · cases hc
  | extract x i =>
    rw [ho] at hc
    obtain ⟨X, hX, rfl⟩ := opd_map hc
    obtain ⟨e', rfl⟩ := keep_inv ev
    simp only [execOp, ho]
    split at e'
    · rename_i vs hvs
      have hx := opd_vr hX hf
      rw [hvs] at hx
      generalize a.eval x = ux at hx
      cases hx with
      | tup t1 t2 =>
        rename_i C
        have hlt : i < vs.length := by
          rcases Nat.lt_or_ge i vs.length with q | q
          · exact q
          · rw [List.getElem?_eq_none q] at e'; cases e'
        rw [List.getElem?_eq_getElem hlt] at e'
        cases e'
        have hci : C[i]? = some (C.getD i undef) := by simp [Array.getD, show i < C.size by omega]
        exact outS (x := C.getD i undef) (by simp only [Instr.extract, hci]; rfl) hs (t2 i hlt)
    · cases e'
  | call c' =>
    have hn := hn c' ho
    rw [ho] at hc
    simp only [compOp, compCall] at hc
    split at hc
    · split at hc
      · obtain ⟨X, hX, rfl⟩ := Option.map_eq_some_iff.1 hc
        cases hn
      · cases hc
    · split at hc
      · cases hc; cases hn
      · cases hc
    · cases hc
    · rename_i b hcal
      have hres : ∃ cs, ∀ args : Array Value, c'.args.map a.eval = args → (execOp a.eval o).run P w = (builtin b c'.argTypes o.type cs args).run P w := by
        refine ⟨c'.args.map fun | .const _ => true | _ => false, fun args ha => ?_⟩
        simp only [execOp, ho, resolve, hcal, ha]
        simp only [Sem.run_bind, Sem.run_pure, Result.andThen_ok, invoke]
        rfl
      obtain ⟨cns, hres⟩ := hres
      obtain ⟨cal, args, ats⟩ := c'
      simp only at hcal hres hc
      have one : ∀ (x : Opd), opds args.toList = some [x] → ∃ x0, args.toList = [x0] ∧ VR ρ I w (a.eval x0) (x.val s) ∧ args.map a.eval = #[a.eval x0] := by
        intro x hx
        have hv := opds_vr _ _ hx hf
        have hsz : args.toList.length = 1 := by have := hv.1; simpa using this
        cases hl : args.toList with
        | nil => rw [hl] at hsz; cases hsz
        | cons x0 r =>
          cases r with
          | cons y r => rw [hl] at hsz; simp at hsz
          | nil =>
            refine ⟨x0, rfl, ?_, ?_⟩
            · have := hv.2 0 (by simp)
              rw [hl] at this
              simpa using this
            · have : args = #[x0] := by rw [← Array.toList_inj]; exact hl
              rw [this]; simp
      have two : ∀ (x y : Opd), opds args.toList = some [x, y] → ∃ x0 y0, args.toList = [x0, y0] ∧ VR ρ I w (a.eval x0) (x.val s) ∧ VR ρ I w (a.eval y0) (y.val s) ∧ args.map a.eval = #[a.eval x0, a.eval y0] := by
        intro x y hx
        have hv := opds_vr _ _ hx hf
        have hsz : args.toList.length = 2 := by have := hv.1; simpa using this
        cases hl : args.toList with
        | nil => rw [hl] at hsz; cases hsz
        | cons x0 r =>
          cases r with
          | nil => rw [hl] at hsz; cases hsz
          | cons y0 r =>
            cases r with
            | cons z r => rw [hl] at hsz; simp at hsz
            | nil =>
              refine ⟨x0, y0, rfl, ?_, ?_, ?_⟩
              · have := hv.2 0 (by simp)
                rw [hl] at this
                simpa using this
              · have := hv.2 1 (by simp)
                rw [hl] at this
                simpa using this
              · have : args = #[x0, y0] := by rw [← Array.toList_inj]; exact hl
                rw [this]; simp
      have mm : ∀ (mx : Bool) (xs : List Opd), opds args.toList = some xs → evMM mx (xs.map (Opd.val s)) = some v →
          ∃ x y r, (args.map a.eval).toList = y :: r ∧ (r.foldlM (if mx then Builtin.max2 else Builtin.min2) y).run P w = .ok x w ∧ VR ρ I w x v := by
        intro mx xs h1 e
        have hv := opds_vr _ _ h1 hf
        unfold evMM at e
        cases xs with
        | nil => simp at e
        | cons X xs =>
          simp only [List.map_cons] at e
          cases hl : args.toList with
          | nil => rw [hl] at h1; simp [opds] at h1
          | cons x0 r =>
            have h0 := hv.2 0 (by simp)
            have hvs := hv.1
            have hv2 := hv.2
            rw [hl] at h0 hvs hv2
            simp only [List.map_cons, List.getElem_cons_zero] at h0
            have h0' : VR ρ I w (a.eval x0) (X.val s) := by simpa using h0
            split at e
            · rename_i k n r' he
              simp only [List.cons.injEq] at he
              obtain ⟨he1, rfl⟩ := he
              rw [he1] at h0'
              obtain ⟨m, rfl, r2⟩ := minmax_fold (P := P) (ρ := ρ) (I := I) (mx := mx) (ty := 0) (r.map a.eval) (xs.map (Opd.val s)) k n v (by simpa using hvs)
                (fun j hj => by have := hv2 (j + 1) (by simpa using hj); simpa using this) e
              exact ⟨.int k m, .int k n, r.map a.eval, by rw [Array.toList_map, hl, List.map_cons, h0'.int_inv], r2, .int _ _⟩
            · cases e
      have aty : ∀ d, (ats[0]?).bind P.underlying = some d → ∃ t, ats[0]? = some t ∧ P.underlying t = some d := by
        intro d hd
        simpa [Option.bind_eq_some_iff] using hd
      split at hc
      · rename_i x n he h1 h2
        cases hc
        cases ev
        obtain ⟨x0, h3, h4, h5⟩ := one x h1
        obtain ⟨t, h6, h7⟩ := aty _ h2
        rw [hres _ h5]
        refine outS (x := .int .i64 n) ?_ hs (.int _ _)
        simp [Builtin.len_, h6, run_underlying h7, goInt]
      · rename_i x h1 h2
        cases hc
        obtain ⟨e, rfl⟩ := keep_inv ev
        obtain ⟨x0, h3, h4, h5⟩ := one x h1
        obtain ⟨t, h6, h7⟩ := aty _ h2
        obtain ⟨r1, r2⟩ := len_ok (P := P) (t := t) (ty := o.type) hs (k := 0) h7 h4 e
        rw [hres _ h5]
        refine outS ?_ hs r2
        rw [← r1]
        simp [Builtin.len_, h6]
      · rename_i x e0 h1 h2
        cases hc
        obtain ⟨e, rfl⟩ := keep_inv ev
        obtain ⟨x0, h3, h4, h5⟩ := one x h1
        obtain ⟨t, h6, h7⟩ := aty _ h2
        obtain ⟨r1, r2⟩ := len_ok (P := P) (t := t) (ty := o.type) hs (k := 1) ⟨_, h7⟩ h4 e
        rw [hres _ h5]
        refine outS ?_ hs r2
        rw [← r1]
        simp [Builtin.len_, h6]
      · rename_i x k0 e0 h1 h2
        cases hc
        obtain ⟨e, rfl⟩ := keep_inv ev
        obtain ⟨x0, h3, h4, h5⟩ := one x h1
        obtain ⟨t, h6, h7⟩ := aty _ h2
        obtain ⟨r1, r2⟩ := len_ok (P := P) (t := t) (ty := o.type) hs (k := 2) ⟨_, _, h7⟩ h4 e
        rw [hres _ h5]
        refine outS ?_ hs r2
        rw [← r1]
        simp [Builtin.len_, h6]
      · rename_i x y e0 h1 h2
        split at hc
        · rename_i z by_ zv e1 hz hb hzv h8
          split at hc
          · rename_i hzs
            cases hc
            obtain ⟨x0, y0, h3, h4, h4', h5⟩ := two x y h1
            obtain ⟨t, h6, h7⟩ := aty _ h2
            have h9 : ∃ t1, ats[1]? = some t1 ∧ P.underlying t1 = some (.slice e1) := by simpa [Option.bind_eq_some_iff] using h8
            obtain ⟨t1, h10, h11⟩ := h9
            obtain ⟨r, w', ρ', I', r1, r2, r3, r4⟩ := app_ok (P := P) (ty := o.type) hs h7 h11 hz hb hzv hzs h4 h4' ev
            rw [hres _ h5]
            refine outN ?_ r2 r3 r4
            rw [← r1]
            simp [Builtin.append_, h6, h10]
          · cases hc
        · cases hc
      · rename_i x e0 h1 h2
        split at hc
        · rename_i z zs hz hzc
          cases hc
          obtain ⟨x0, h3, h4, h5⟩ := one x h1
          obtain ⟨t, h6, h7⟩ := aty _ h2
          obtain ⟨w', r1, r2, r3, rfl⟩ := clear_ok (P := P) (ty := o.type) hs h7 hz hzc h4 ev
          rw [hres _ h5]
          refine outN (x := .tuple #[]) ?_ r3 r2 VR.undef
          rw [← r1]
          simp [Builtin.clear_, h6]
        · cases hc
      · rename_i xs e0 h1 h2
        cases hc
        obtain ⟨e, rfl⟩ := keep_inv ev
        obtain ⟨x, y, r, r0, r1, r2⟩ := mm true xs h1 e
        rw [hres _ rfl]
        exact outS (by simp only [Builtin.max_, r0]; exact r1) hs r2
      · rename_i xs e0 h1 h2
        cases hc
        obtain ⟨e, rfl⟩ := keep_inv ev
        obtain ⟨x, y, r, r0, r1, r2⟩ := mm false xs h1 e
        rw [hres _ rfl]
        exact outS (by simp only [Builtin.min_, r0]; exact r1) hs r2
      · rename_i m k t0 e0 h1 h2
        split at hc
        · rename_i hb
          cases hc
          obtain ⟨x0, y0, h3, h4, h4', h5⟩ := two m k h1
          obtain ⟨t, h6, h7⟩ := aty _ h2
          obtain ⟨w', r1, r2, r3, rfl⟩ := del_ok (P := P) (ty := o.type) hs h7 hb h4 h4' ev
          rw [hres _ h5]
          refine outN (x := .tuple #[]) ?_ r3 r2 VR.undef
          rw [← r1]
          simp [Builtin.delete_, h6]
        · cases hc
      · cases hc
  | _ => rw [ho] at hc; simp [compOp] at hc
end
end Go.Ev

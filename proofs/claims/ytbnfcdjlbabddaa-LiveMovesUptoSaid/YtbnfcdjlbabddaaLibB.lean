/- Each operation of the abstract machine stands for the machine's own: the assembly. -/
import Derived.Test.YtbnfcdjlbabddaaLibA
import Derived.Orders
import Derived.LoopN
import Derived.Scope
import Derived.ChangeOld
import Derived.ChangeReads
import Derived.WideShapes
import Derived.ChangeShapes
import Derived.Sort.Row
import Derived.Sort.Grow
set_option linter.unusedVariables false
set_option linter.unusedSimpArgs false
namespace Go.Ev
section
variable {P : Program} {ρ : Nat → Option (Nat × Nat)} {I : Nat → Prop} {h h' : AH} {w : World} {nt : Nat} {a : Act} {s : Fr} {u u' : Value} {v X Y : PV}
  {call : Nat → List PV → AH → Option (PV × AH)}

theorem opd_map {x : Operand} {f : Opd → COp} {c : COp} (e : (opd x).map f = some c) : ∃ X, opd x = some X ∧ c = f X := by
  simp only [Option.map_eq_some_iff] at e
  obtain ⟨X, h1, h2⟩ := e
  exact ⟨X, h1, h2.symm⟩

theorem bin_out {o : Oper} {op : BinOp} {t t' : TypeId} {x y : Operand} {c : COp} (hs : SR ρ I h w) (hf : FR ρ I w nt a s) (ho : o.op = .binOp op t x y t') (hc : compBin P op t x y = some c) (ev : evOp call c s h = some (v, h')) :
    Out ρ I h w v h' ((execOp a.eval o).run P w) := by
  unfold compBin at hc
  split at hc
  · rename_i X Y hX hY
    have hx := opd_vr hX hf
    have hy := opd_vr hY hf
    simp only [execOp, ho]
    by_cases hop : op = .eql ∨ op = .neq
    · rw [if_pos hop] at hc
      split at hc
      · cases hc
        obtain ⟨e, rfl⟩ := keep_inv ev
        obtain ⟨r1, r2⟩ := bin_ok (P := P) (t := t) (x := x) (y := y) e hx hy
        exact outS r1 hs r2
      · cases hc
        obtain ⟨e, rfl⟩ := keep_inv ev
        obtain ⟨r1, r2⟩ := bin_ok (P := P) (t := t) (x := x) (y := y) e hx hy
        exact outS r1 hs r2
      · rename_i hu
        cases hc
        obtain ⟨e, rfl⟩ := keep_inv ev
        split at e
        · rename_i b c hb hb'
          rw [hb] at hx
          rw [hb'] at hy
          cases e
          obtain ⟨r, r1, r2⟩ := eqb_ok (P := P) (x := x) (y := y) hop hu hx hy
          exact outS r1 hs r2
        · cases e
      · rename_i fs hu
        split at hc
        · rename_i hfl
          cases hc
          obtain ⟨e, rfl⟩ := keep_inv ev
          split at e
          · rename_i b c hb hb'
            rw [hb] at hx
            rw [hb'] at hy
            simp only [Option.map_eq_some_iff] at e
            obtain ⟨r, e1, rfl⟩ := e
            exact outS (eqs_ok (P := P) (x := x) (y := y) hop hu hfl hx hy e1) hs (.bool _)
          · cases e
        · cases hc
      · simp only [Option.map_eq_some_iff] at hc
        obtain ⟨k, hk, rfl⟩ := hc
        obtain ⟨e, rfl⟩ := keep_inv ev
        simp only [Option.map_eq_some_iff] at e
        obtain ⟨r, e1, rfl⟩ := e
        exact outS (isnil_ok (P := P) (x := x) hop hk hx e1) hs (.bool _)
    · rw [if_neg hop] at hc
      cases hc
      obtain ⟨e, rfl⟩ := keep_inv ev
      obtain ⟨r1, r2⟩ := bin_ok (P := P) (t := t) (x := x) (y := y) e hx hy
      exact outS r1 hs r2
  · cases hc

/-- An operation that is no call of a function. -/
def COp.notCall : COp → Bool
  | .call _ _ | .callv _ _ | .callp _ _ _ => false
  | _ => true

def lenT (P : Program) (t : TypeId) : Nat → Prop
  | 0 => P.underlying t = some .string
  | 1 => ∃ e, P.underlying t = some (.slice e)
  | 2 => ∃ k e, P.underlying t = some (.map k e)
  | _ => False

theorem len_ok {t : TypeId} {ty : TypeId} {k : Nat} (hs : SR ρ I h w) (ht : lenT P t k) (hx : VR ρ I w u X) (e : evLen h k X = some v) : (Builtin.len_ #[t] ty #[u]).run P w = .ok (conc v) w ∧ VR ρ I w (conc v) v := by
  unfold evLen at e
  split at e
  · rw [hx.str_inv]; cases e
    have hu : P.underlying t = some .string := ht
    exact ⟨by simp [Builtin.len_, run_underlying hu, goInt, conc], .int _ _⟩
  · cases e
    obtain ⟨e', hu⟩ : ∃ e, P.underlying t = some (.slice e) := ht
    cases hx
    exact ⟨by simp [Builtin.len_, run_underlying hu, goInt, conc], .int _ _⟩
  · cases e
    obtain ⟨e', hu⟩ : ∃ e, P.underlying t = some (.slice e) := ht
    cases hx
    exact ⟨by simp [Builtin.len_, run_underlying hu, goInt, conc], .int _ _⟩
  · cases e
    obtain ⟨e', hu⟩ : ∃ e, P.underlying t = some (.slice e) := ht
    cases hx <;> exact ⟨by simp [Builtin.len_, run_underlying hu, goInt, conc], .int _ _⟩
  · cases e
    obtain ⟨k', e', hu⟩ : ∃ k e, P.underlying t = some (.map k e) := ht
    cases hx
    exact ⟨by simp [Builtin.len_, run_underlying hu, goInt, conc], .int _ _⟩
  · rename_i i
    obtain ⟨k', e', hu⟩ : ∃ k e, P.underlying t = some (.map k e) := ht
    split at e
    · rename_i es hbk
      cases e
      cases hx with
      | mp hρ =>
        obtain ⟨M, clock, g1, g2, g3⟩ := own_map hs hbk hρ
        exact ⟨by simp [Builtin.len_, run_underlying hu, Go.MapKept.run_getObj_map g1, goInt, conc, g2], .int _ _⟩
    · cases e
  · cases e

theorem clear_ok {t e : TypeId} {z : Nat} {zs : List PV} {ty : TypeId} (hs : SR ρ I h w) (hu : P.underlying t = some (.slice e)) (hz : szT P e = some z) (hzc : zeroCells P e = some zs) (hx : VR ρ I w u X)
    (ev : evClear h z zs X = some (v, h')) : ∃ w', (Builtin.clear_ #[t] ty #[u]).run P w = .ok (.tuple #[]) w' ∧ SR ρ I h' w' ∧ St ρ I h w ρ I h' w' ∧ v = .tup [] := by
  obtain ⟨zv, z1, z2⟩ := zeroCells_inv hzc
  have hzv : VRA ρ I w zv.cells zs := zero_vra z2
  have nothing : ∀ A : Option Addr, (Builtin.clear_ #[t] ty #[.slice A 0 0]).run P w = .ok (.tuple #[]) w := by
    intro A
    cases A <;> simp [Builtin.clear_, run_underlying hu]
  unfold evClear at ev
  cases X with
  | emp =>
    cases ev
    cases hx
    exact ⟨w, nothing _, hs, .refl, rfl⟩
  | rf z' i o n =>
    simp only at ev
    cases hr : h.row i with
    | none => simp [hr] at ev
    | some cs =>
      simp only [hr] at ev
      split at ev
      · rename_i hc
        obtain ⟨rfl, hle, hzl⟩ := hc
        cases ev
        cases hx with
        | rf0 =>
          have heq : h.set i (.cells (splice cs o (List.replicate 0 zs).flatten)) = h := by
            apply AH.ext'
            · rfl
            · rfl
            · intro j
              rw [AH.set_blk]
              by_cases q : j = i
              · rw [if_pos q, q, row_blk hr]
                simp [splice]
              · rw [if_neg q]
          rw [heq]
          exact ⟨w, nothing _, hs, .refl, rfl⟩
        | rf hρ hn hw hc =>
          rename_i b o' c C T f
          obtain ⟨C2, T2, g1, g2, g3, g4⟩ := own_row hs (row_blk hr) hρ
          rw [hw] at g1
          cases g1
          by_cases hn0 : n = 0
          · subst hn0
            have heq : h.set i (.cells (splice cs o (List.replicate 0 zs).flatten)) = h := by
              apply AH.ext'
              · rfl
              · rfl
              · intro j
                rw [AH.set_blk]
                by_cases q : j = i
                · rw [if_pos q, q, row_blk hr]
                  simp [splice]
                · rw [if_neg q]
            rw [heq]
            exact ⟨w, by simp [Builtin.clear_, run_underlying hu], hs, .refl, rfl⟩
          · by_cases hz0 : z' = 0
            · have hzn : zs = [] := List.eq_nil_of_length_eq_zero (by omega)
              have hv0 : zv.cells.size = 0 := by rw [hzv.1, hzn]; rfl
              have heq : h.set i (.cells (splice cs o (List.replicate n zs).flatten)) = h := by
                apply AH.ext'
                · rfl
                · rfl
                · intro j
                  rw [AH.set_blk]
                  by_cases q : j = i
                  · rw [if_pos q, q, row_blk hr]
                    simp [splice, hzn]
                  · rw [if_neg q]
              rw [heq]
              refine ⟨w, ?_, hs, .refl, rfl⟩
              have : (Builtin.zeroCells zv.cells n) = #[] := by simp [Builtin.zeroCells, hv0]
              obtain ⟨m, rfl⟩ := Nat.exists_eq_succ_of_ne_zero hn0
              simp [Builtin.clear_, run_underlying hu, run_zeroValue z1, this, storeCells]
            · have hr2 := reps_vra (n := n) hzv (by omega)
              have hsz : zv.cells.size = zs.length := hzv.1
              have hzc' : Builtin.zeroCells zv.cells n = (Array.range (n * zs.length)).map fun i => zv.cells[i % zv.cells.size]! := by rw [Builtin.zeroCells, hsz]
              have hmul : n * z' ≤ c * z' := Nat.mul_le_mul_right _ hn
              obtain ⟨w', e1, e2, e3⟩ := write_ok (P := P) (k := o) (ds := (List.replicate n zs).flatten) (vs := (Builtin.zeroCells zv.cells n).toList) hs (row_blk hr) hρ hw (by omega) (by rw [hzc']; simp) (by rw [hzc']; simp [hzl]; omega)
                (fun j hj => by have := hr2.2.1 j hj; rw [← hzc'] at this; simpa [Array.getD_eq_getD_getElem?] using this) hr2.2.2
              refine ⟨w', ?_, e2, e3, rfl⟩
              obtain ⟨m, rfl⟩ := Nat.exists_eq_succ_of_ne_zero hn0
              simp [Builtin.clear_, run_underlying hu, run_zeroValue z1, e1]
      · cases ev
  | _ => simp at ev

theorem del_ok {t kt et : TypeId} {ty : TypeId} (hs : SR ρ I h w) (hm : P.underlying t = some (.map kt et)) (hb : isBasic P kt = true) (hx : VR ρ I w u X) (hy : VR ρ I w u' Y)
    (ev : evDel h (kindT P kt) X Y = some (v, h')) : ∃ w', (Builtin.delete_ #[t] ty #[u, u']).run P w = .ok (.tuple #[]) w' ∧ SR ρ I h' w' ∧ St ρ I h w ρ I h' w' ∧ v = .tup [] := by
  have hd : ∃ d, P.underlying kt = some d := by
    cases e : P.underlying kt with
    | none => simp [isBasic, e] at hb
    | some d => exact ⟨d, rfl⟩
  obtain ⟨d, hd⟩ := hd
  unfold evDel at ev
  cases X with
  | nilm =>
    simp only at ev
    split at ev
    · rename_i hk
      cases ev
      cases hx
      have ck : (Instr.checkKey true 10000 kt u').run P w = .ok () w := checkKey_ok (n := 9999) hb hk hy true
      exact ⟨w, by simp [Builtin.delete_, run_underlying hm, ck], hs, .refl, rfl⟩
    · cases ev
  | mp i =>
    simp only at ev
    cases hbk : h.blk i with
    | none => simp [hbk] at ev
    | some B =>
      cases B with
      | cells cs => simp [hbk] at ev
      | map es =>
        simp only [hbk] at ev
        split at ev
        · rename_i hk
          have ck : ∀ e, (Instr.checkKey e 10000 kt u').run P w = .ok () w := fun e => checkKey_ok (n := 9999) hb hk hy e
          cases hx with
          | mp hρ =>
            rename_i b o
            obtain ⟨M, clock, g1, g2, g3⟩ := own_map hs hbk hρ
            have wr : ∀ (M' : Array MapEntry) (c' : Nat) (es' : List (PV × PV)), M'.size = es'.length → (∀ j (hj : j < es'.length) (hj' : j < M'.size), VR ρ I w M'[j].key es'[j].1 ∧ VR ρ I w M'[j].val es'[j].2) →
                SR ρ I (h.set i (.map es')) { w with heap := w.heap.setIfInBounds b (.map M' c') } ∧ St ρ I h w ρ I (h.set i (.map es')) { w with heap := w.heap.setIfInBounds b (.map M' c') } := by
              intro M' c' es' e1 e2
              refine hs.wrote (by rw [hbk]; simp) hρ rfl rfl rfl (by simp) (fun q hq => (Go.MapKept.heap_set g1).2 q hq) (fun C T f e => by rw [g1] at e; cases e) fun st => ?_
              exact ⟨M', c', (Go.MapKept.heap_set g1).1, e1, fun j hj hj' => ⟨(e2 j hj hj').1.step hs st, (e2 j hj hj').2.step hs st⟩⟩
            cases hf : findK Y es 0 with
            | none => simp [hf] at ev
            | some r =>
              have hfind := findNow_ok (P := P) hd hb hk hy es M.toList 0 r (by simpa using g2) (fun j hj hj' => by simpa using g3 j hj (by simpa using hj')) hf
              rcases hfind with ⟨rfl, q2⟩ | ⟨j, x, y, e, rfl, q2, q3, q4, q5⟩
              · simp only [hf] at ev
                cases ev
                obtain ⟨k1, k2⟩ := wr M clock es g2 g3
                have heq : h.set i (.map es) = h := by
                  apply AH.ext'
                  · rfl
                  · rfl
                  · intro j
                    rw [AH.set_blk]
                    by_cases q : j = i
                    · rw [if_pos q, q, hbk]
                    · rw [if_neg q]
                rw [heq] at k1 k2
                refine ⟨_, ?_, k1, k2, rfl⟩
                simp [Builtin.delete_, run_underlying hm, Go.MapKept.run_getObj_map g1, ck, Go.MapKept.run_findKey (P := P) (w := w) hd q2, Go.MapKept.run_setObj_map _ g1]
              · simp only [hf] at ev
                cases ev
                have hjl : j < M.size := by
                  have := (List.getElem?_eq_some_iff.1 q4).1
                  simpa using this
                have hME : M.eraseIdxIfInBounds j = M.eraseIdx j hjl := by unfold Array.eraseIdxIfInBounds; rw [dif_pos hjl]
                obtain ⟨k1, k2⟩ := wr (M.eraseIdxIfInBounds j) clock (es.eraseIdx j) (by rw [hME, Array.size_eraseIdx, List.length_eraseIdx_of_lt (by omega), g2]) (fun k hk' hk'' => by
                  have hk3 : k < M.size - 1 := by rw [hME, Array.size_eraseIdx] at hk''; exact hk''
                  have e1 : (M.eraseIdxIfInBounds j)[k] = if k < j then M[k] else M[k + 1] := by
                    simp only [hME, Array.getElem_eraseIdx]
                    split <;> rfl
                  have e2 : (es.eraseIdx j)[k] = if hkj : k < j then es[k]'(by omega) else es[k + 1]'(by omega) := by
                    rw [List.getElem_eraseIdx]
                  rw [e1, e2]
                  by_cases q : k < j
                  · rw [if_pos q, dif_pos q]; exact g3 k (by omega) (by omega)
                  · rw [if_neg q, dif_neg q]; exact g3 (k + 1) (by omega) (by omega))
                simp only [Nat.zero_add]
                refine ⟨_, ?_, k1, k2, by first | rfl | trivial⟩
                simp [Builtin.delete_, run_underlying hm, Go.MapKept.run_getObj_map g1, ck, Go.MapKept.run_findKey (P := P) (w := w) hd q2, Go.MapKept.run_setObj_map _ g1]
        · cases ev
  | _ => simp at ev

/-- Every operation but a call. -/
theorem op_out {o : Oper} {c : COp} {ow : Nat} (hc : compOp P ow o.op = some c) (hf : FR ρ I w nt a s) (hs : SR ρ I h w) (ev : evOp call c s h = some (v, h')) (hn : ∀ c', o.op = .call c' → c.notCall = true) : Out ρ I h w v h' ((execOp a.eval o).run P w) := by
  cases ho : o.op with
  | move x =>
    rw [ho] at hc
    obtain ⟨X, hX, rfl⟩ := opd_map hc
    cases ev
    exact .same (by simp [execOp, ho]) hs (opd_vr hX hf)
  | assign x =>
    rw [ho] at hc
    obtain ⟨X, hX, rfl⟩ := opd_map hc
    cases ev
    exact .same (by simp [execOp, ho]) hs (opd_vr hX hf)
  | pick x y z =>
    rw [ho] at hc
    simp only [compOp] at hc
    split at hc
    · rename_i X Y Z hX hY hZ
      cases hc
      simp only [evOp] at ev
      split at ev
      · rename_i t ht
        cases ev
        have hx := opd_vr hX hf
        rw [ht] at hx
        have hb := hx.bool_inv
        refine .same (u := if t then a.eval y else a.eval z) ?_ hs ?_
        · simp only [execOp, ho, hb, asBool]
          cases t <;> simp
        · cases t
          · exact opd_vr hZ hf
          · exact opd_vr hY hf
      · cases ev
    · cases hc
  | alloc t =>
    rw [ho] at hc
    simp only [compOp, Option.map_eq_some_iff] at hc
    obtain ⟨zs, hz, rfl⟩ := hc
    obtain ⟨z, z1, z2⟩ := zeroCells_inv hz
    cases ev
    simp only [execOp, ho]
    exact alloc_out hs z1 z2
  | box t x =>
    rw [ho] at hc
    simp only [compOp] at hc
    obtain ⟨X, hX, hc⟩ := opd_map hc
    simp only [execOp, ho]
    by_cases how : ow = 1
    case pos =>
      simp only [how, if_true] at hc
      subst hc
      simp only [evOp] at ev
      split at ev
      · rename_i hk
        cases ev
        exact box_out hs (opd_vr hX hf) hk
      · cases ev
    case neg =>
      simp only [how, if_false] at hc
      subst hc
      simp only [evOp] at ev
      split at ev
      · rename_i hk
        cases ev
        exact boxi_out hs (opd_vr hX hf) hk
      · cases ev
  | build t parts =>
    rw [ho] at hc
    simp only [compOp] at hc
    simp only [execOp, ho]
    split at hc
    · rename_i zs fs hz hu
      simp only [Option.bind_eq_some_iff] at hc
      obtain ⟨ps, hp, hc⟩ := hc
      split at hc
      · rename_i hall
        cases hc
        obtain ⟨e, rfl⟩ := keep_inv ev
        simp only [Option.map_eq_some_iff] at e
        obtain ⟨cs, e1, rfl⟩ := e
        obtain ⟨C, c1, c2⟩ := build_struct (P := P) hf hu hz hall hp e1
        exact outS c1 hs c2.agg
      · cases hc
    · rename_i zs n e hz hu
      split at hc
      · rename_i z hz'
        simp only [Option.map_eq_some_iff] at hc
        obtain ⟨ps, hp, rfl⟩ := hc
        obtain ⟨e, rfl⟩ := keep_inv ev
        simp only [Option.map_eq_some_iff] at e
        obtain ⟨cs, e1, rfl⟩ := e
        obtain ⟨C, c1, c2⟩ := build_array (P := P) hf hu hz hz' hp e1
        exact outS c1 hs c2.agg
      · cases hc
    · cases hc
  | buildSlice t n parts =>
    rw [ho] at hc
    simp only [compOp] at hc
    simp only [execOp, ho]
    split at hc
    · rename_i e hu
      split at hc
      · rename_i z zs hz hzc
        split at hc
        · rename_i hcond
          simp only [Option.map_eq_some_iff] at hc
          obtain ⟨ps, hp, hc⟩ := hc
          by_cases how : ow = 1
          case pos =>
            simp only [how, if_true] at hc
            subst hc
            simp only [evOp] at ev
            split at ev
            · rename_i cs hcs
              cases ev
              obtain ⟨C, c1, c2⟩ := bslice_out (P := P) hs hf hu hz hzc hcond hp hcs
              obtain ⟨g1, g2⟩ := hs.alloc (T := e) (C := C) (cs := cs) (Nat.le_of_eq c2.1.symm) c2.2.1 c2.2.2
              refine outN c1 g2 g1 ?_
              have hlen : C.size = n * z := by
                rw [c2.1]
                have : ∀ (l : List (Nat × Nat × PV)) (xs ys : List PV), fillP xs l = some ys → ys.length = xs.length := by
                  intro l
                  induction l with
                  | nil => intro xs ys e; cases e; rfl
                  | cons p l ih =>
                    intro xs ys e
                    obtain ⟨off, n, x⟩ := p
                    simp only [fillP] at e
                    split at e
                    · rename_i hc
                      rw [ih _ _ e, splice_len (by omega)]
                    · cases e
                rw [this _ _ _ hcs]
                simp [hcond.2.1]
              have : VR (upd ρ h.nx (w.heap.size, 0)) I (w.alloc (.cells C e)) (.slice (some ⟨w.heap.size, 0 + 0, none⟩) n n) (.rf z h.nx 0 n) :=
                .rf (by simp [upd]) (Nat.le_refl _) (heap_alloc_new w _) (by omega)
              simpa using this
            · cases ev
          case neg =>
            simp only [how, if_false] at hc
            subst hc
            obtain ⟨e', rfl⟩ := keep_inv ev
            simp only [Option.map_eq_some_iff] at e'
            obtain ⟨cs, hcs, rfl⟩ := e'
            obtain ⟨C, c1, c2⟩ := bslice_out (P := P) hs hf hu hz hzc hcond hp hcs
            obtain ⟨g1, g2⟩ := hs.allocI (.cells C e)
            refine outN c1 g2 g1 ?_
            by_cases hn0 : n = 0
            · rw [if_pos hn0, hn0]; exact .emp
            · rw [if_neg hn0]
              refine .sl (fun j => C.getD j undef) (Nat.le_refl _) (fun _ => ⟨w.heap.size, 0, rfl, .inr rfl, fun j hj => ?_⟩) (fun j hj => (c2.2.1 j hj).step hs g2) c2.2.2
              rw [Nat.zero_add, World.cell?_alloc_new]
              have := c2.1
              simp [Array.getD, show j < C.size by omega]
        · cases hc
      · cases hc
    · cases hc
  | load t x =>
    rw [ho] at hc
    simp only [compOp] at hc
    split at hc
    · rename_i g n X hg hz hX
      cases hc
      obtain ⟨e, rfl⟩ := keep_inv ev
      simp only [execOp, ho]
      obtain ⟨x', r1, r2⟩ := load_ok (P := P) hg hz hs (opd_vr hX hf) e
      exact outS r1 hs r2
    · cases hc
  | store t x y =>
    rw [ho] at hc
    simp only [compOp] at hc
    split at hc
    · rename_i n X Y hz hX hY
      cases hc
      simp only [evOp] at ev
      split at ev
      · rename_i h2 hw
        cases ev
        simp only [execOp, ho]
        obtain ⟨w', r1, r2, r3⟩ := store_ok (P := P) hs hz (opd_vr hX hf) (opd_vr hY hf) hw
        exact outU r1 r3 r2
      · cases ev
    · cases hc
  | nilCheck x =>
    rw [ho] at hc
    obtain ⟨X, hX, rfl⟩ := opd_map hc
    simp only [evOp] at ev
    split at ev
    · rename_i hnil
      cases ev
      exact .same (nilchk_ok ho hnil (opd_vr hX hf)) hs (opd_vr hX hf)
    · cases ev
  | binOp op t x y t' =>
    rw [ho] at hc
    exact bin_out hs hf ho hc ev
  | unOp op t x =>
    rw [ho] at hc
    obtain ⟨X, hX, rfl⟩ := opd_map hc
    obtain ⟨e, rfl⟩ := keep_inv ev
    simp only [execOp, ho]
    obtain ⟨r1, r2⟩ := un_ok (P := P) e (opd_vr hX hf)
    exact outS r1 hs r2
  | convert p q x =>
    rw [ho] at hc
    simp only [compOp] at hc
    simp only [execOp, ho]
    split at hc
    · rename_i k1 k X h1 h2 hX
      cases hc
      obtain ⟨e, rfl⟩ := keep_inv ev
      split at e
      · rename_i k' n hn'
        have hx := opd_vr hX hf
        rw [hn'] at hx
        have hi := hx.int_inv
        cases e
        refine outS (x := .int k (k.wrap n)) ?_ hs (.int _ _)
        rw [hi]
        simp [convert, run_underlying h1, run_underlying h2, Conv.intToInt]
      · cases e
    · rename_i X h1 h2 hX
      cases hc
      obtain ⟨e, rfl⟩ := keep_inv ev
      split at e
      · rename_i b hb'
        have hx := opd_vr hX hf
        rw [hb'] at hx
        have hi := hx.str_inv
        cases e
        refine outS (x := .string b) ?_ hs (.str _)
        rw [hi]
        simp [convert, run_underlying h1, run_underlying h2]
      · cases e
    · cases hc
  | makeFunc f first cap =>
    rw [ho] at hc
    cases f with
    | func f =>
      simp only [compOp] at hc
      split at hc
      · rename_i fs cs h1 h2
        cases hc
        cases ev
        simp only [execOp, ho]
        obtain ⟨a1, a2⟩ := opds_vr _ _ h1 hf
        obtain ⟨b1, b2⟩ := opds_vr _ _ h2 hf
        refine outS (x := .func (.func f) (first.map a.eval) (cap.map a.eval)) (by simp [Instr.makeFunc]) hs (.fn ?_ ?_ (fun j hj => ?_) (fun j hj => ?_))
        · simpa using a1
        · simpa using b1
        · have := a2 j hj; simpa [Array.getD_eq_getD_getElem?] using this
        · have := b2 j hj; simpa [Array.getD_eq_getD_getElem?] using this
      · cases hc
    | _ => simp [compOp] at hc
  | makeMap t r =>
    rw [ho] at hc
    cases r with
    | some x => simp [compOp] at hc
    | none =>
      simp only [compOp] at hc
      cases hc
      cases ev
      simp only [execOp, ho]
      obtain ⟨g1, g2⟩ := hs.new (w' := w.alloc (.map #[] 0)) (B := .map []) rfl rfl rfl (World.size_alloc _ _) (fun b hb => RowKit.Below.heap_alloc _ _ _ hb)
        fun st => ⟨#[], 0, heap_alloc_new _ _, rfl, fun j hj => absurd hj (Nat.not_lt_zero _)⟩
      refine outN (x := .map (some w.heap.size)) (w' := w.alloc (.map #[] 0)) (by simp [Instr.makeMap]) g2 g1 (.mp (o := 0) (by simp [upd]))
  | makeSlice t l c =>
    rw [ho] at hc
    simp only [compOp] at hc
    simp only [execOp, ho]
    split at hc
    · rename_i e hu
      split at hc
      · rename_i z b zs L C hz hb hzc hL hC
        split at hc
        · rename_i hcond
          by_cases how : ow = 1
          · rw [if_pos how] at hc
            cases hc
            obtain ⟨ev', rfl⟩ := keep_inv ev
            split at ev'
            · rename_i l' c' h1 h2
              split at ev'
              · rename_i hok
                cases ev'
                have hl := opd_vr hL hf
                have hc' := opd_vr hC hf
                rw [h1] at hl
                rw [h2] at hc'
                rw [hl.int_inv, hc'.int_inv]
                obtain ⟨r, w', ρ', I', r1, r2, r3, r4⟩ := mkslI_ok (P := P) hs hu hz hb hzc hcond hok
                exact outN r1 r2 r3 r4
              · cases ev'
            · cases ev'
          rw [if_neg how] at hc
          cases hc
          simp only [evOp] at ev
          split at ev
          · rename_i l' c' h1 h2
            split at ev
            · rename_i hok
              cases ev
              have hl := opd_vr hL hf
              have hc' := opd_vr hC hf
              rw [h1] at hl
              rw [h2] at hc'
              rw [hl.int_inv, hc'.int_inv]
              obtain ⟨r, w', ρ', I', r1, r2, r3, r4⟩ := mkslice_ok (P := P) hs hu hz hb hzc hcond hok
              exact outN r1 r2 r3 r4
            · cases ev
          · cases ev
        · cases hc
      · cases hc
    · cases hc
  | slice t x lo hi mx =>
    rw [ho] at hc
    simp only [compOp] at hc
    simp only [execOp, ho]
    split at hc
    · rename_i e X Lo Hi Mx hu hX hlo hhi hmx
      simp only [Option.map_eq_some_iff] at hc
      obtain ⟨z, hz, rfl⟩ := hc
      obtain ⟨ev', rfl⟩ := keep_inv ev
      cases mx with
      | none =>
        simp [opdO] at hmx
        subst hmx
        obtain ⟨r, r1, r2⟩ := slice2_ok (P := P) hu hz hlo hhi hf (opd_vr hX hf) ev'
        exact outS r1 hs r2
      | some y =>
        simp only [opdO, Option.map_eq_some_iff] at hmx
        obtain ⟨Y, hY, rfl⟩ := hmx
        obtain ⟨r, r1, r2⟩ := slice3_ok (P := P) hu hz hlo hhi hY hf (opd_vr hX hf) ev'
        exact outS r1 hs r2
    · rename_i X Lo Hi hu hX hlo hhi hmx
      cases hc
      obtain ⟨ev', rfl⟩ := keep_inv ev
      cases mx with
      | none =>
        obtain ⟨r, r1, r2⟩ := slstr_ok (P := P) hu hlo hhi hf (opd_vr hX hf) ev'
        exact outS r1 hs r2
      | some y =>
        simp only [opdO, Option.map_eq_some_iff] at hmx
        obtain ⟨Y, hY, hc⟩ := hmx
        cases hc
    · cases hc
  | fieldAddr t x i =>
    rw [ho] at hc
    simp only [compOp] at hc
    simp only [execOp, ho]
    split at hc
    · rename_i fs X hu hX
      split at hc
      · rename_i f hfi
        split at hc
        · rename_i n hn'
          split at hc
          · cases hc
          · rename_i h0
            cases hc
            obtain ⟨e, rfl⟩ := keep_inv ev
            obtain ⟨b, o', p1, p2⟩ := ptr_add (opd_vr hX hf) e
            rw [p1]
            exact outS (field_run (P := P) hu hfi hn' h0) hs p2
        · cases hc
      · cases hc
    · cases hc
  | field t x i =>
    rw [ho] at hc
    simp only [compOp] at hc
    simp only [execOp, ho]
    split at hc
    · rename_i fs X hu hX
      split at hc
      · rename_i f hfi
        split at hc
        · rename_i g n hg hn'
          cases hc
          obtain ⟨e, rfl⟩ := keep_inv ev
          split at e
          · rename_i cs hcs
            have hx := opd_vr hX hf
            rw [hcs] at hx
            obtain ⟨C, r, r1, r2, r3⟩ := part_ok (P := P) hg hn' hx e
            rw [r1]
            refine outS (x := r) ?_ hs r3
            simp [Instr.field, run_underlying hu, hfi, asAgg, r2]
          · cases e
        · cases hc
      · cases hc
    · cases hc
  | indexAddr t x i =>
    rw [ho] at hc
    simp only [compOp] at hc
    simp only [execOp, ho]
    split at hc
    · rename_i e X J hu hX hJ
      simp only [Option.map_eq_some_iff] at hc
      obtain ⟨z, hz, rfl⟩ := hc
      obtain ⟨e', rfl⟩ := keep_inv ev
      split at e'
      · rename_i k j hj'
        have hx := opd_vr hX hf
        have hj := opd_vr hJ hf
        rw [hj'] at hj
        rw [hj.int_inv]
        generalize X.val s = XV at hx e'
        generalize a.eval x = ux at hx
        cases XV with
        | sl n cs =>
          simp only [evIdx] at e'
          split at e'
          · rename_i hb
            obtain ⟨b1, b2, b3, b4⟩ := hb
            cases e'
            cases hx with
            | sl us hn hA hv ho' =>
              rename_i A c
              have hcs : cs ≠ [] := by
                rintro rfl
                simp only [List.length_nil] at b3
                rcases Nat.mul_eq_zero.1 b3.symm with q | q <;> omega
              obtain ⟨b, o', rfl, hI, hc⟩ := hA hcs
              refine outS (idx_run (P := P) (c := c) hu hz b1 b2) hs (.pi (fun q => us (j.toNat * z + q)) hI (fun q hq => ?_) (fun q hq => ?_) (fun y hy => ho' y (List.mem_of_mem_drop hy)))
              · rw [List.length_drop] at hq
                rw [Nat.add_assoc]
                exact hc _ (by omega)
              · rw [List.getElem_drop]
                exact hv _ _
          · cases e'
        | rf z' b' o' n =>
          simp only [evIdx] at e'
          split at e'
          · rename_i hb
            obtain ⟨b1, b2, rfl⟩ := hb
            cases e'
            cases hx with
            | rf hρ hn hw hc =>
              refine outS (idx_run (P := P) hu hz b1 b2) hs ?_
              rw [Nat.add_assoc]
              exact .pt hρ
            | rf0 => omega
          · cases e'
        | _ => simp [evIdx] at e'
      · cases e'
    · rename_i n e X J hu hX hJ
      simp only [Option.map_eq_some_iff] at hc
      obtain ⟨z, hz, rfl⟩ := hc
      obtain ⟨e', rfl⟩ := keep_inv ev
      split at e'
      · rename_i k j hj'
        split at e'
        · rename_i hb
          have hj := opd_vr hJ hf
          rw [hj'] at hj
          rw [hj.int_inv]
          obtain ⟨b, o', p1, p2⟩ := ptr_add (opd_vr hX hf) e'
          rw [p1]
          exact outS (idxp_run (P := P) hu hz hb.1 hb.2) hs p2
        · cases e'
      · cases e'
    · cases hc
  | index t x i =>
    rw [ho] at hc
    simp only [compOp] at hc
    simp only [execOp, ho]
    split at hc
    · rename_i n e X J hu hX hJ
      split at hc
      · rename_i g z hg hz
        cases hc
        obtain ⟨e', rfl⟩ := keep_inv ev
        split at e'
        · rename_i cs k j hx' hj'
          split at e'
          · rename_i hb
            have hx := opd_vr hX hf
            have hj := opd_vr hJ hf
            rw [hx'] at hx
            rw [hj'] at hj
            rw [hj.int_inv]
            obtain ⟨C, r, r1, r2, r3⟩ := part_ok (P := P) hg hz hx e'
            rw [r1]
            refine outS (x := r) ?_ hs r3
            simp [Instr.index, asIntOf, run_underlying hu, hb.1, hb.2, run_sizeOf hz, r2]
          · cases e'
        · cases e'
      · cases hc
    · rename_i X J hu hX hJ
      cases hc
      obtain ⟨e', rfl⟩ := keep_inv ev
      split at e'
      · rename_i b k j hx' hj'
        split at e'
        · rename_i h0
          split at e'
          · rename_i c hcb
            cases e'
            have hx := opd_vr hX hf
            have hj := opd_vr hJ hf
            rw [hx'] at hx
            rw [hj'] at hj
            rw [hj.int_inv, hx.str_inv]
            refine outS (x := .int .u8 c.toNat) ?_ hs (.int _ _)
            simp [Instr.index, asIntOf, run_underlying hu, h0, hcb]
          · cases e'
        · cases e'
      · cases e'
    · cases hc
  | lookup t m k ok =>
    rw [ho] at hc
    simp only [compOp] at hc
    simp only [execOp, ho]
    split at hc
    · rename_i kt et M K hu hM hK
      split at hc
      · rename_i hb
        simp only [Option.map_eq_some_iff, Option.bind_eq_some_iff] at hc
        obtain ⟨zp, ⟨zv, hz, hzp⟩, rfl⟩ := hc
        obtain ⟨e', rfl⟩ := keep_inv ev
        obtain ⟨r, r1, r2⟩ := lkp_ok (P := P) (ok := ok) hs hu hb hz hzp (opd_vr hM hf) (opd_vr hK hf) e'
        exact outS r1 hs r2
      · cases hc
    · cases hc
  | mapUpdate t m k x =>
    rw [ho] at hc
    simp only [compOp] at hc
    simp only [execOp, ho]
    split at hc
    · rename_i kt et M K V hu hM hK hV
      split at hc
      · rename_i hb
        cases hc
        obtain ⟨w', r1, r2, r3, rfl⟩ := upd_ok (P := P) hs hu hb (opd_vr hM hf) (opd_vr hK hf) (opd_vr hV hf) ev
        exact outU r1 r3 r2
      · cases hc
    · cases hc
  | insert t m k x =>
    rw [ho] at hc
    simp only [compOp] at hc
    simp only [execOp, ho]
    split at hc
    · rename_i kt et M K V hu hM hK hV
      split at hc
      · rename_i hb
        cases hc
        obtain ⟨w', r1, r2, r3, rfl⟩ := upd_ok (P := P) hs hu hb (opd_vr hM hf) (opd_vr hK hf) (opd_vr hV hf) ev
        exact outU r1 r3 r2
      · cases hc
    · cases hc
  | extract x i =>
    rw [ho] at hc
    obtain ⟨X, hX, rfl⟩ := opd_map hc
    obtain ⟨e', rfl⟩ := keep_inv ev
    simp only [execOp, ho]
    split at e'
    · rename_i vs hvs
      have hx := opd_vr hX hf
      rw [hvs] at hx
      generalize a.eval x = ux at hx
      cases hx with
      | tup t1 t2 =>
        rename_i C
        have hlt : i < vs.length := by
          rcases Nat.lt_or_ge i vs.length with q | q
          · exact q
          · rw [List.getElem?_eq_none q] at e'; cases e'
        rw [List.getElem?_eq_getElem hlt] at e'
        cases e'
        have hci : C[i]? = some (C.getD i undef) := by simp [Array.getD, show i < C.size by omega]
        exact outS (x := C.getD i undef) (by simp only [Instr.extract, hci]; rfl) hs (t2 i hlt)
    · cases e'
  | call c' =>
    have hn := hn c' ho
    rw [ho] at hc
    simp only [compOp, compCall] at hc
    split at hc
    · split at hc
      · obtain ⟨X, hX, rfl⟩ := Option.map_eq_some_iff.1 hc
        cases hn
      · cases hc
    · split at hc
      · cases hc; revert hn; split <;> (intro hn; cases hn)
      · cases hc
    · cases hc
    · rename_i b hcal
      have hres : ∃ cs, ∀ args : Array Value, c'.args.map a.eval = args → (execOp a.eval o).run P w = (builtin b c'.argTypes o.type cs args).run P w := by
        refine ⟨c'.args.map fun | .const _ => true | _ => false, fun args ha => ?_⟩
        simp only [execOp, ho, resolve, hcal, ha]
        simp only [Sem.run_bind, Sem.run_pure, Result.andThen_ok, invoke]
        rfl
      obtain ⟨cns, hres⟩ := hres
      obtain ⟨cal, args, ats⟩ := c'
      simp only at hcal hres hc
      have one : ∀ (x : Opd), opds args.toList = some [x] → ∃ x0, args.toList = [x0] ∧ VR ρ I w (a.eval x0) (x.val s) ∧ args.map a.eval = #[a.eval x0] := by
        intro x hx
        have hv := opds_vr _ _ hx hf
        have hsz : args.toList.length = 1 := by have := hv.1; simpa using this
        cases hl : args.toList with
        | nil => rw [hl] at hsz; cases hsz
        | cons x0 r =>
          cases r with
          | cons y r => rw [hl] at hsz; simp at hsz
          | nil =>
            refine ⟨x0, rfl, ?_, ?_⟩
            · have := hv.2 0 (by simp)
              rw [hl] at this
              simpa using this
            · have : args = #[x0] := by rw [← Array.toList_inj]; exact hl
              rw [this]; simp
      have two : ∀ (x y : Opd), opds args.toList = some [x, y] → ∃ x0 y0, args.toList = [x0, y0] ∧ VR ρ I w (a.eval x0) (x.val s) ∧ VR ρ I w (a.eval y0) (y.val s) ∧ args.map a.eval = #[a.eval x0, a.eval y0] := by
        intro x y hx
        have hv := opds_vr _ _ hx hf
        have hsz : args.toList.length = 2 := by have := hv.1; simpa using this
        cases hl : args.toList with
        | nil => rw [hl] at hsz; cases hsz
        | cons x0 r =>
          cases r with
          | nil => rw [hl] at hsz; cases hsz
          | cons y0 r =>
            cases r with
            | cons z r => rw [hl] at hsz; simp at hsz
            | nil =>
              refine ⟨x0, y0, rfl, ?_, ?_, ?_⟩
              · have := hv.2 0 (by simp)
                rw [hl] at this
                simpa using this
              · have := hv.2 1 (by simp)
                rw [hl] at this
                simpa using this
              · have : args = #[x0, y0] := by rw [← Array.toList_inj]; exact hl
                rw [this]; simp
      have mm : ∀ (mx : Bool) (xs : List Opd), opds args.toList = some xs → evMM mx (xs.map (Opd.val s)) = some v →
          ∃ x y r, (args.map a.eval).toList = y :: r ∧ (r.foldlM (if mx then Builtin.max2 else Builtin.min2) y).run P w = .ok x w ∧ VR ρ I w x v := by
        intro mx xs h1 e
        have hv := opds_vr _ _ h1 hf
        unfold evMM at e
        cases xs with
        | nil => simp at e
        | cons X xs =>
          simp only [List.map_cons] at e
          cases hl : args.toList with
          | nil => rw [hl] at h1; simp [opds] at h1
          | cons x0 r =>
            have h0 := hv.2 0 (by simp)
            have hvs := hv.1
            have hv2 := hv.2
            rw [hl] at h0 hvs hv2
            simp only [List.map_cons, List.getElem_cons_zero] at h0
            have h0' : VR ρ I w (a.eval x0) (X.val s) := by simpa using h0
            split at e
            · rename_i k n r' he
              simp only [List.cons.injEq] at he
              obtain ⟨he1, rfl⟩ := he
              rw [he1] at h0'
              obtain ⟨m, rfl, r2⟩ := minmax_fold (P := P) (ρ := ρ) (I := I) (mx := mx) (ty := 0) (r.map a.eval) (xs.map (Opd.val s)) k n v (by simpa using hvs)
                (fun j hj => by have := hv2 (j + 1) (by simpa using hj); simpa using this) e
              exact ⟨.int k m, .int k n, r.map a.eval, by rw [Array.toList_map, hl, List.map_cons, h0'.int_inv], r2, .int _ _⟩
            · cases e
      have aty : ∀ d, (ats[0]?).bind P.underlying = some d → ∃ t, ats[0]? = some t ∧ P.underlying t = some d := by
        intro d hd
        simpa [Option.bind_eq_some_iff] using hd
      split at hc
      · rename_i x n he h1 h2
        cases hc
        cases ev
        obtain ⟨x0, h3, h4, h5⟩ := one x h1
        obtain ⟨t, h6, h7⟩ := aty _ h2
        rw [hres _ h5]
        refine outS (x := .int .i64 n) ?_ hs (.int _ _)
        simp [Builtin.len_, h6, run_underlying h7, goInt]
      · rename_i x h1 h2
        cases hc
        obtain ⟨e, rfl⟩ := keep_inv ev
        obtain ⟨x0, h3, h4, h5⟩ := one x h1
        obtain ⟨t, h6, h7⟩ := aty _ h2
        obtain ⟨r1, r2⟩ := len_ok (P := P) (t := t) (ty := o.type) hs (k := 0) h7 h4 e
        rw [hres _ h5]
        refine outS ?_ hs r2
        rw [← r1]
        simp [Builtin.len_, h6]
      · rename_i x e0 h1 h2
        cases hc
        obtain ⟨e, rfl⟩ := keep_inv ev
        obtain ⟨x0, h3, h4, h5⟩ := one x h1
        obtain ⟨t, h6, h7⟩ := aty _ h2
        obtain ⟨r1, r2⟩ := len_ok (P := P) (t := t) (ty := o.type) hs (k := 1) ⟨_, h7⟩ h4 e
        rw [hres _ h5]
        refine outS ?_ hs r2
        rw [← r1]
        simp [Builtin.len_, h6]
      · rename_i x k0 e0 h1 h2
        cases hc
        obtain ⟨e, rfl⟩ := keep_inv ev
        obtain ⟨x0, h3, h4, h5⟩ := one x h1
        obtain ⟨t, h6, h7⟩ := aty _ h2
        obtain ⟨r1, r2⟩ := len_ok (P := P) (t := t) (ty := o.type) hs (k := 2) ⟨_, _, h7⟩ h4 e
        rw [hres _ h5]
        refine outS ?_ hs r2
        rw [← r1]
        simp [Builtin.len_, h6]
      · rename_i x y e0 h1 h2
        split at hc
        · rename_i z by_ zv e1 hz hb hzv h8
          split at hc
          · rename_i hzs
            cases hc
            obtain ⟨x0, y0, h3, h4, h4', h5⟩ := two x y h1
            obtain ⟨t, h6, h7⟩ := aty _ h2
            have h9 : ∃ t1, ats[1]? = some t1 ∧ P.underlying t1 = some (.slice e1) := by simpa [Option.bind_eq_some_iff] using h8
            obtain ⟨t1, h10, h11⟩ := h9
            obtain ⟨r, w', ρ', I', r1, r2, r3, r4⟩ := app_ok (P := P) (ty := o.type) hs h7 h11 hz hb hzv hzs h4 h4' ev
            rw [hres _ h5]
            refine outN ?_ r2 r3 r4
            rw [← r1]
            simp [Builtin.append_, h6, h10]
          · cases hc
        · cases hc
      · rename_i x e0 h1 h2
        split at hc
        · rename_i z zs hz hzc
          cases hc
          obtain ⟨x0, h3, h4, h5⟩ := one x h1
          obtain ⟨t, h6, h7⟩ := aty _ h2
          obtain ⟨w', r1, r2, r3, rfl⟩ := clear_ok (P := P) (ty := o.type) hs h7 hz hzc h4 ev
          rw [hres _ h5]
          refine outN (x := .tuple #[]) ?_ r3 r2 VR.undef
          rw [← r1]
          simp [Builtin.clear_, h6]
        · cases hc
      · rename_i xs e0 h1 h2
        cases hc
        obtain ⟨e, rfl⟩ := keep_inv ev
        obtain ⟨x, y, r, r0, r1, r2⟩ := mm true xs h1 e
        rw [hres _ rfl]
        exact outS (by simp only [Builtin.max_, r0]; exact r1) hs r2
      · rename_i xs e0 h1 h2
        cases hc
        obtain ⟨e, rfl⟩ := keep_inv ev
        obtain ⟨x, y, r, r0, r1, r2⟩ := mm false xs h1 e
        rw [hres _ rfl]
        exact outS (by simp only [Builtin.min_, r0]; exact r1) hs r2
      · rename_i m k t0 e0 h1 h2
        split at hc
        · rename_i hb
          cases hc
          obtain ⟨x0, y0, h3, h4, h4', h5⟩ := two m k h1
          obtain ⟨t, h6, h7⟩ := aty _ h2
          obtain ⟨w', r1, r2, r3, rfl⟩ := del_ok (P := P) (ty := o.type) hs h7 hb h4 h4' ev
          rw [hres _ h5]
          refine outN (x := .tuple #[]) ?_ r3 r2 VR.undef
          rw [← r1]
          simp [Builtin.delete_, h6]
        · cases hc
      · cases hc
  | _ => rw [ho] at hc; simp [compOp] at hc
end
end Go.Ev

/- Regions: the order in which a statement's operations are carried out does not matter where the translation let it by. -/
set_option linter.unusedVariables false
set_option linter.unusedSimpArgs false
namespace Go.Ev
section
variable {call : Nat → List PV → AH → Option (PV × AH)} {pu : Nat → Bool}

/-- Every block is still there. -/
def AH.le (h h' : AH) : Prop := ∀ i B, h.blk i = some B → h'.blk i = some B

/-- Calls of the functions that leave the heap alone. -/
def PureOk (pu : Nat → Bool) (call : Nat → List PV → AH → Option (PV × AH)) : Prop :=
  (∀ f as h r h', pu f = true → call f as h = some (r, h') → h' = h ∧ ∀ h2, h.le h2 → call f as h2 = some (r, h2)) ∧
    ∀ f as h r h', pu (f + exb) = true → (∀ i, h.nx ≤ i → h.blk i = none) → call f as h = some (r, h') → h.le h'

theorem row_le {h h' : AH} (hl : h.le h') {i : Nat} {cs : List PV} (e : h.row i = some cs) : h'.row i = some cs := by
  have := hl _ _ (row_blk e)
  simp [AH.row, this]

theorem Opd.val_congr {s s' : Fr} {x : Opd} (hs : ∀ t ∈ x.slots, s t = s' t) : x.val s = x.val s' := by
  cases x with
  | t n => exact hs n (by simp [Opd.slots])
  | c v => rfl

theorem vals_congr {s s' : Fr} : ∀ {xs : List Opd}, (∀ t ∈ xs.flatMap Opd.slots, s t = s' t) → xs.map (Opd.val s) = xs.map (Opd.val s')
  | [], _ => rfl
  | x :: xs, hs => by
    simp only [List.flatMap_cons, List.mem_append] at hs
    rw [List.map_cons, List.map_cons, Opd.val_congr (fun t ht => hs t (.inl ht)), vals_congr (fun t ht => hs t (.inr ht))]

theorem parts_congr {s s' : Fr} : ∀ {ps : List (Nat × Nat × Opd)}, (∀ t ∈ ps.flatMap (fun p => p.2.2.slots), s t = s' t) → ps.map (fun p => (p.1, p.2.1, p.2.2.val s)) = ps.map (fun p => (p.1, p.2.1, p.2.2.val s'))
  | [], _ => rfl
  | x :: xs, hs => by
    simp only [List.flatMap_cons, List.mem_append] at hs
    rw [List.map_cons, List.map_cons, Opd.val_congr (fun t ht => hs t (.inl ht)), parts_congr (fun t ht => hs t (.inr ht))]

theorem optval_congr {s s' : Fr} {x : Option Opd} (hs : ∀ t ∈ optSlots x, s t = s' t) : x.map (Opd.val s) = x.map (Opd.val s') := by
  cases x with
  | none => rfl
  | some x => simp only [Option.map_some]; rw [Opd.val_congr hs]

theorem sepOk_congr {s s' : Fr} {ts : List Nat} {v : PV} (hs : ∀ t ∈ ts, s t = s' t) : sepOk s ts v = sepOk s' ts v := by
  unfold sepOk
  split
  · rename_i i hi
    rw [Bool.eq_iff_iff]
    simp only [List.all_eq_true]
    exact ⟨fun q t ht => by rw [← hs t ht]; exact q t ht, fun q t ht => by rw [hs t ht]; exact q t ht⟩
  · rfl

theorem evOp_congr {o : COp} {s s' : Fr} {h : AH} (hs : ∀ t ∈ o.slots, s t = s' t) : evOp call o s h = evOp call o s' h := by
  have one : ∀ x : Opd, (∀ t ∈ x.slots, t ∈ o.slots) → x.val s = x.val s' := fun x hx => Opd.val_congr fun t ht => hs t (hx t ht)
  cases o
  case bslice z n zs ps => simp only [evOp]; rw [parts_congr (fun t ht => hs t ht)]
  case blit n zs ps => simp only [evOp]; rw [parts_congr (fun t ht => hs t ht)]
  case build zs ps => simp only [evOp]; rw [parts_congr (fun t ht => hs t ht)]
  case mkfn f fs cs => simp only [evOp]; rw [vals_congr (xs := fs) (fun t ht => hs t (by simp [COp.slots]; exact .inl (by simpa using ht))), vals_congr (xs := cs) (fun t ht => hs t (by simp [COp.slots]; exact .inr (by simpa using ht)))]
  case call f as => simp only [evOp]; rw [vals_congr (xs := as) (fun t ht => hs t ht)]
  case minmax m xs => simp only [evOp]; rw [vals_congr (xs := xs) (fun t ht => hs t ht)]
  case callv f as => simp only [evOp]; rw [one f (fun t ht => by simp [COp.slots, ht]), vals_congr (xs := as) (fun t ht => hs t (by simp [COp.slots]; exact .inr (by simpa using ht)))]
  case callp g f as => simp only [evOp]; rw [one f (fun t ht => by simp [COp.slots, ht]), vals_congr (xs := as) (fun t ht => hs t (by simp [COp.slots]; exact .inr (by simpa using ht)))]
  case slice z x lo hi mx => simp only [evOp]; rw [one x (fun t ht => by simp [COp.slots, ht]), optval_congr (x := lo) (fun t ht => hs t (by simp [COp.slots, ht])), optval_congr (x := hi) (fun t ht => hs t (by simp [COp.slots, ht])), optval_congr (x := mx) (fun t ht => hs t (by simp [COp.slots, ht]))]
  case slstr x lo hi => simp only [evOp]; rw [one x (fun t ht => by simp [COp.slots, ht]), optval_congr (x := lo) (fun t ht => hs t (by simp [COp.slots, ht])), optval_congr (x := hi) (fun t ht => hs t (by simp [COp.slots, ht]))]
  case bad => rfl
  case alloc zs => rfl
  case mkmap => rfl
  case pick c a b => simp only [evOp]; rw [one c (fun t ht => by simp [COp.slots, ht]), one a (fun t ht => by simp [COp.slots, ht]), one b (fun t ht => by simp [COp.slots, ht])]
  case upd kd m k v => simp only [evOp]; rw [one m (fun t ht => by simp [COp.slots, ht]), one k (fun t ht => by simp [COp.slots, ht]), one v (fun t ht => by simp [COp.slots, ht])]
  case mov x => simp only [evOp]; rw [one x (fun t ht => by simp [COp.slots, ht])]
  case nilchk x => simp only [evOp]; rw [one x (fun t ht => by simp [COp.slots, ht])]
  case box x => simp only [evOp]; rw [one x (fun t ht => by simp [COp.slots, ht])]
  case boxN n x => simp only [evOp]; rw [one x (fun t ht => by simp [COp.slots, ht])]
  case boxi x => simp only [evOp]; rw [one x (fun t ht => by simp [COp.slots, ht])]
  case clear z zs x => simp only [evOp]; rw [one x (fun t ht => by simp [COp.slots, ht])]
  case load g n x => simp only [evOp]; rw [one x (fun t ht => by simp [COp.slots, ht])]
  case isnil g k x => simp only [evOp]; rw [one x (fun t ht => by simp [COp.slots, ht])]
  case un op x => simp only [evOp]; rw [one x (fun t ht => by simp [COp.slots, ht])]
  case conv k x => simp only [evOp]; rw [one x (fun t ht => by simp [COp.slots, ht])]
  case str x => simp only [evOp]; rw [one x (fun t ht => by simp [COp.slots, ht])]
  case fld k x => simp only [evOp]; rw [one x (fun t ht => by simp [COp.slots, ht])]
  case fldv g k n x => simp only [evOp]; rw [one x (fun t ht => by simp [COp.slots, ht])]
  case ext x i => simp only [evOp]; rw [one x (fun t ht => by simp [COp.slots, ht])]
  case len k x => simp only [evOp]; rw [one x (fun t ht => by simp [COp.slots, ht])]
  case store n x y => simp only [evOp]; rw [one x (fun t ht => by simp [COp.slots, ht]), one y (fun t ht => by simp [COp.slots, ht])]
  case bin op x y => simp only [evOp]; rw [one x (fun t ht => by simp [COp.slots, ht]), one y (fun t ht => by simp [COp.slots, ht])]
  case eqb g x y => simp only [evOp]; rw [one x (fun t ht => by simp [COp.slots, ht]), one y (fun t ht => by simp [COp.slots, ht])]
  case eqs g k x y => simp only [evOp]; rw [one x (fun t ht => by simp [COp.slots, ht]), one y (fun t ht => by simp [COp.slots, ht])]
  case mkslice z b zs x y => simp only [evOp]; rw [one x (fun t ht => by simp [COp.slots, ht]), one y (fun t ht => by simp [COp.slots, ht])]
  case idx z x y => simp only [evOp]; rw [one x (fun t ht => by simp [COp.slots, ht]), one y (fun t ht => by simp [COp.slots, ht])]
  case idxp l z x y => simp only [evOp]; rw [one x (fun t ht => by simp [COp.slots, ht]), one y (fun t ht => by simp [COp.slots, ht])]
  case idxv g l z x y => simp only [evOp]; rw [one x (fun t ht => by simp [COp.slots, ht]), one y (fun t ht => by simp [COp.slots, ht])]
  case idxs x y => simp only [evOp]; rw [one x (fun t ht => by simp [COp.slots, ht]), one y (fun t ht => by simp [COp.slots, ht])]
  case lkp kd z ok x y => simp only [evOp]; rw [one x (fun t ht => by simp [COp.slots, ht]), one y (fun t ht => by simp [COp.slots, ht])]
  case app z b x y => simp only [evOp]; rw [one x (fun t ht => by simp [COp.slots, ht]), one y (fun t ht => by simp [COp.slots, ht])]
  case del kd x y => simp only [evOp]; rw [one x (fun t ht => by simp [COp.slots, ht]), one y (fun t ht => by simp [COp.slots, ht])]
  case storeS ts n x y => simp only [evOp]; rw [one x (fun t ht => by simp [COp.slots, ht]), one y (fun t ht => by simp [COp.slots, ht]), sepOk_congr (fun t ht => hs t (by simp [COp.slots, ht]))]
  case appS ts z b x y => simp only [evOp]; rw [one x (fun t ht => by simp [COp.slots, ht]), one y (fun t ht => by simp [COp.slots, ht]), sepOk_congr (fun t ht => hs t (by simp [COp.slots, ht]))]
  case loadi g n x => simp only [evOp]; rw [one x (fun t ht => by simp [COp.slots, ht])]
  case mkslI z b zs x y => simp only [evOp]; rw [one x (fun t ht => by simp [COp.slots, ht]), one y (fun t ht => by simp [COp.slots, ht])]
  case mksliceR k z b zs x y => simp only [evOp]; rw [one x (fun t ht => by simp [COp.slots, ht]), one y (fun t ht => by simp [COp.slots, ht])]
  case resv m => rfl

theorem keep_any {h h' : AH} {α : Option PV} {v : PV} (e : keep h α = some (v, h')) : h' = h ∧ ∀ h2, keep h2 α = some (v, h2) := by
  obtain ⟨rfl, rfl⟩ := keep_inv e
  exact ⟨rfl, fun h2 => rfl⟩

/-- Class 0: the heap is neither read nor changed. -/
theorem cls0 {o : COp} {s : Fr} {h h' : AH} {v : PV} (hc : cls pu o = 0) (e : evOp call o s h = some (v, h')) : h' = h ∧ ∀ h2, evOp call o s h2 = some (v, h2) := by
  by_cases hlen : ∃ k x, o = .len k x
  · obtain ⟨k, x, rfl⟩ := hlen
    have hk : k ≠ 2 := fun q => by subst q; simp [cls] at hc
    simp only [evOp] at e ⊢
    obtain ⟨e1, rfl⟩ := keep_inv e
    refine ⟨rfl, fun h2 => ?_⟩
    have : evLen h2 k (x.val s) = evLen h' k (x.val s) := by
      unfold evLen
      split <;> first | rfl | (exfalso; exact hk rfl)
    rw [this, e1]; rfl
  cases o <;> (first | (exact absurd ⟨_, _, rfl⟩ hlen) | (simp [cls] at hc; done) | (simp only [cls] at hc; split at hc <;> first | (cases hc; done) | (split at hc <;> cases hc; done)) | skip) <;> (simp only [evOp] at e ⊢) <;> first
    | exact keep_any e
    | (cases e; exact ⟨rfl, fun _ => rfl⟩)
    | (split at e <;> first | (cases e; exact ⟨rfl, fun _ => rfl⟩) | (cases e; exact ⟨rfl, fun _ => by simp_all⟩) | (cases e; done))
    | (split at hc <;> cases hc)
    | cases hc

theorem rds_le {h h' : AH} {p : PV} {n : Nat} {ds : List PV} (hl : h.le h') (e : rds h p n = some ds) : rds h' p n = some ds := by
  cases p with
  | pt i o =>
    simp only [rds] at e ⊢
    cases hr : h.row i with
    | none => simp [hr] at e
    | some cs => simp only [hr] at e; rw [row_le hl hr]; exact e
  | _ => exact e

theorem rd1_le {h h' : AH} {p d : PV} (hl : h.le h') (e : rd1 h p = some d) : rd1 h' p = some d := by
  cases p with
  | pt i o =>
    simp only [rd1] at e ⊢
    cases hr : h.row i with
    | none => simp [hr] at e
    | some cs => simp only [hr] at e; rw [row_le hl hr]; exact e
  | _ => exact e

theorem evLen_le {h h' : AH} {k : Nat} {X v : PV} (hl : h.le h') (e : evLen h k X = some v) : evLen h' k X = some v := by
  unfold evLen at e ⊢
  split at e <;> try exact e
  rename_i i
  cases hb : h.blk i with
  | none => simp [hb] at e
  | some B => simp only [hb] at e; simp only [hl _ _ hb]; exact e

/-- Class 1: the heap is read. -/
theorem cls1 {o : COp} {s : Fr} {h h' : AH} {v : PV} (hp : PureOk pu call) (hc : cls pu o = 1) (e : evOp call o s h = some (v, h')) : h' = h ∧ ∀ h2, h.le h2 → evOp call o s h2 = some (v, h2) := by
  have mono : ∀ {α : AH → Option PV}, keep h (α h) = some (v, h') → (∀ h2, h.le h2 → α h = some v → α h2 = some v) → h' = h ∧ ∀ h2, h.le h2 → keep h2 (α h2) = some (v, h2) := by
    intro α e m
    obtain ⟨e1, rfl⟩ := keep_inv e
    exact ⟨rfl, fun h2 hl => by rw [m h2 hl e1]; rfl⟩
  cases o with
  | load g n a =>
    refine mono (α := fun h => if g then (rds h (a.val s) n).map .agg else rd1 h (a.val s)) e fun h2 hl e1 => ?_
    cases g with
    | true =>
      simp only [if_true, Option.map_eq_some_iff] at e1 ⊢
      obtain ⟨ds, d1, d2⟩ := e1
      exact ⟨ds, rds_le hl d1, d2⟩
    | false => exact rd1_le hl e1
  | lkp kd z ok m k =>
    refine mono (α := fun h => evLkp h kd z ok (m.val s) (k.val s)) e fun h2 hl e1 => ?_
    unfold evLkp at e1 ⊢
    split at e1
    · rename_i hk
      rw [if_pos hk]
      cases hm : m.val s with
      | mp i =>
        simp only [hm] at e1 ⊢
        cases hb : h.blk i with
        | none => simp [hb] at e1
        | some B => simp only [hb] at e1; rw [hl _ _ hb]; exact e1
      | nilm => simp only [hm] at e1 ⊢; exact e1
      | _ => simp [hm] at e1
    · cases e1
  | len k x =>
    exact mono (α := fun h => evLen h k (x.val s)) e fun h2 hl e1 => evLen_le hl e1
  | call f as =>
    simp only [cls] at hc
    split at hc
    · rename_i hf
      exact hp.1 f _ h v h' hf e
    · split at hc <;> cases hc
  | callp g f as =>
    simp only [cls] at hc
    split at hc
    · rename_i hf
      simp only [evOp] at e ⊢
      split at e
      · split at e
        · rename_i hg
          obtain ⟨e1, e2⟩ := hp.1 g _ h v h' hf e
          refine ⟨e1, fun h2 hl => ?_⟩
          simp_all
        · cases e
      · cases e
    · cases hc
  | _ => simp [cls] at hc

theorem push_le (h : AH) (B : Blk) (hf : h.blk h.nx = none) : h.le (h.push B) := by
  intro i C e
  rw [AH.push_blk]
  by_cases q : i = h.nx
  · subst q; rw [hf] at e; cases e
  · rw [if_neg q]; exact e

/-- Class 2: a new block. -/
theorem cls2 {o : COp} {s : Fr} {h h' : AH} {v : PV} (hp : PureOk pu call) (hw : ∀ i, h.nx ≤ i → h.blk i = none) (hc : cls pu o = 2) (e : evOp call o s h = some (v, h')) : h.le h' := by
  have hf := hw _ (Nat.le_refl _)
  by_cases hcall : ∃ f as, o = .call f as
  · obtain ⟨f, as, rfl⟩ := hcall
    simp only [cls] at hc
    split at hc
    · cases hc
    · split at hc
      · rename_i hx; exact hp.2 f _ h v h' hx hw e
      · cases hc
  by_cases hR : ∃ k z b zs l c, o = .mksliceR k z b zs l c
  · obtain ⟨k, z, b, zs, l, c, rfl⟩ := hR
    simp only [evOp] at e
    split at e
    · split at e
      · rename_i hq
        cases e
        intro i B hB
        rw [AH.set_blk]
        by_cases q : i = h.nx - 1 - k
        · subst q; have := hq.2.2.2; rw [hB] at this; cases this
        · rw [if_neg q]; exact hB
      · cases e
    · cases e
  cases o <;> (first | (exact absurd ⟨_, _, rfl⟩ hcall) | (exact absurd ⟨_, _, _, _, _, _, rfl⟩ hR) | (simp [cls] at hc; done) | (simp only [cls] at hc; split at hc <;> cases hc; done) | skip) <;> (simp only [evOp] at e) <;> first
    | (cases e; exact push_le h _ hf)
    | (split at e <;> first | (cases e; exact push_le h _ hf) | (cases e; done) | (split at e <;> first | (cases e; exact push_le h _ hf) | cases e))
    | (split at hc <;> cases hc)
    | cases hc
end
end Go.Ev

/- Regions: whatever order is picked, the operations come to what they come to in the order of the text. -/
set_option linter.unusedVariables false
set_option linter.unusedSimpArgs false
namespace Go.Ev
section
variable {call : Nat → List PV → AH → Option (PV × AH)} {pu : Nat → Bool}

def WFH (h : AH) : Prop := ∀ i, h.nx ≤ i → h.blk i = none

/-- Calls leave no block beyond the count. -/
def WfOk (call : Nat → List PV → AH → Option (PV × AH)) : Prop := ∀ f as h r h', WFH h → call f as h = some (r, h') → WFH h'

theorem WFH.push {h : AH} (hw : WFH h) (B : Blk) : WFH (h.push B) := by
  intro i hi
  have : h.nx + 1 ≤ i := hi
  rw [AH.push_blk, if_neg (by omega)]
  exact hw i (by omega)
theorem WFH.set {h : AH} (hw : WFH h) {j : Nat} (hj : h.blk j ≠ none) (B : Blk) : WFH (h.set j B) := by
  intro i hi
  have h1 : h.nx ≤ i := hi
  rw [AH.set_blk]
  by_cases q : i = j
  · subst q; exact absurd (hw i h1) hj
  · rw [if_neg q]; exact hw i h1
theorem WFH.del {h : AH} (hw : WFH h) (j : Nat) : WFH (h.del j) := by
  intro i hi
  have h1 : h.nx ≤ i := hi
  rw [AH.del_blk]
  split
  · rfl
  · exact hw i h1
theorem row_ne {h : AH} {i : Nat} {cs : List PV} (e : h.row i = some cs) : h.blk i ≠ none := by rw [row_blk e]; simp

theorem wr_wf {h h' : AH} {p v : PV} {n : Nat} (hw : WFH h) (e : wr h p v n = some h') : WFH h' := by
  cases p with
  | pt i o =>
    simp only [wr] at e
    cases hr : h.row i with
    | none => simp [hr] at e
    | some cs =>
      simp only [hr] at e
      cases v <;> simp only at e <;> first
        | cases e; done
        | (split at e <;> first | (cases e; exact hw.set (row_ne hr) _) | (cases e; done))
  | _ => simp [wr] at e

theorem WFH.setAt {h : AH} (hw : WFH h) {j : Nat} (hj : j < h.nx) (B : Blk) : WFH (h.set j B) := by
  intro i hi
  have h1 : h.nx ≤ i := hi
  rw [AH.set_blk, if_neg (by omega)]
  exact hw i h1
theorem app_wf {h h' : AH} {z b : Nat} {x y v : PV} (hw : WFH h) (e : evApp h z b x y = some (v, h')) : WFH h' := by
  simp only [evApp] at e
  split at e
  · split at e <;> first | (cases e; exact hw) | (cases e; done)
  · split at e
    · split at e
      · cases e; exact hw.push _
      · cases e
    · split at e
      · split at e
        · cases e; exact (hw.del _).push _
        · cases e
      · cases e
    · cases e
  · cases e
theorem evOp_wf {o : COp} {s : Fr} {h h' : AH} {v : PV} (hc : WfOk call) (hw : WFH h) (e : evOp call o s h = some (v, h')) : WFH h' := by
  cases o
  case storeS ts n a x =>
    simp only [evOp] at e
    split at e
    · split at e
      · rename_i h2 h3; cases e; exact wr_wf hw h3
      · cases e
    · cases e
  case appS ts z b x y =>
    simp only [evOp] at e
    split at e
    · exact app_wf hw e
    · cases e
  case mksliceR k z b zs l c =>
    simp only [evOp] at e
    split at e
    · split at e
      · rename_i hq; cases e; exact hw.setAt (by omega) _
      · cases e
    · cases e
  case resv m => cases e; exact fun i hi => hw i (by have : h.nx + m ≤ i := hi; omega)
  case store n a x =>
    simp only [evOp] at e
    split at e
    · rename_i h2 h3; cases e; exact wr_wf hw h3
    · cases e
  case upd kd m k x =>
    simp only [evOp, evUpd] at e
    split at e
    · split at e
      · rename_i i es hb
        split at e
        · split at e <;> first | (cases e; exact hw.set (by rw [hb]; simp) _) | (cases e; done)
        · cases e
      · cases e
    · cases e
  case del kd m k =>
    simp only [evOp, evDel] at e
    split at e
    · split at e
      · cases e; exact hw
      · cases e
    · split at e
      · rename_i i es hb
        split at e
        · split at e <;> first | (cases e; exact hw.set (by rw [hb]; simp) _) | (cases e; exact hw) | (cases e; done)
        · cases e
      · cases e
    · cases e
  case clear z zs x =>
    simp only [evOp, evClear] at e
    split at e
    · split at e
      · rename_i cs hr
        split at e
        · cases e; exact hw.set (row_ne hr) _
        · cases e
      · cases e
    · cases e; exact hw
    · cases e
  case app z b x y =>
    simp only [evOp, evApp] at e
    split at e
    · split at e <;> first | (cases e; exact hw) | (cases e; done)
    · split at e
      · split at e
        · cases e; exact hw.push _
        · cases e
      · split at e
        · split at e
          · cases e; exact (hw.del _).push _
          · cases e
        · cases e
      · cases e
    · cases e
  case call f as => exact hc f _ h v h' hw e
  case callv f as =>
    simp only [evOp] at e
    split at e
    · split at e
      · exact hc _ _ h v h' hw e
      · cases e
    · cases e
  case callp g f as =>
    simp only [evOp] at e
    split at e
    · split at e
      · exact hc _ _ h v h' hw e
      · cases e
    · cases e
  all_goals
    simp only [evOp] at e
    first
      | (cases e; done)
      | (obtain ⟨_, rfl⟩ := keep_inv e; exact hw)
      | (cases e; first | exact hw | exact hw.push _)
      | (split at e <;> first | (cases e; first | exact hw | exact hw.push _) | (cases e; done) | (split at e <;> first | (cases e; first | exact hw | exact hw.push _) | (cases e; done)))

theorem evOpB_inv {o : COp} {s : Fr} {h h' : AH} {v : PV} (e : evOpB call o s h = some (v, h')) : barOk o s h = true ∧ evOp call o s h = some (v, h') := by
  unfold evOpB at e
  split at e
  · rename_i hb; exact ⟨hb, e⟩
  · cases e

theorem evOpB_mk {o : COp} {s : Fr} {h h' : AH} {v : PV} (hb : barOk o s h = true) (e : evOp call o s h = some (v, h')) : evOpB call o s h = some (v, h') := by
  unfold evOpB; rw [if_pos hb]; exact e

theorem barOk_cls {o : COp} {s : Fr} {h : AH} (hc : cls pu o = 0 ∨ cls pu o = 1) : barOk o s h = true := by
  cases o <;> first | rfl | (rcases hc with hc | hc <;> simp [cls] at hc)

theorem evOpB_congr {o : COp} {s s' : Fr} {h : AH} (hs : ∀ t ∈ o.slots, s t = s' t) : evOpB call o s h = evOpB call o s' h := by
  have one : ∀ x : Opd, (∀ t ∈ x.slots, s t = s' t) → x.val s = x.val s' := by
    intro x hx
    cases x with
    | t n => exact hx n (by simp [Opd.slots])
    | c v => rfl
  have hb : barOk o s h = barOk o s' h := by
    cases o <;> first | rfl | (simp only [barOk, target]; rw [one _ (fun t ht => hs t (by simp [COp.slots, ht]))])
  unfold evOpB
  rw [hb, evOp_congr hs]

def evStep (call : Nat → List PV → AH → Option (PV × AH)) (o : COper) (s : Fr) (h : AH) : Option (Fr × AH) :=
  if wants o.guard s then match evOpB call o.op s h with
    | some (v, h') => some (Fr.put s o.dst v, h')
    | none => none
  else some (Fr.put s o.dst .undef, h)

theorem evStep_wf {o : COper} {s s' : Fr} {h h' : AH} (hc : WfOk call) (hw : WFH h) (e : evStep call o s h = some (s', h')) : WFH h' := by
  unfold evStep at e
  split at e
  · split at e
    · rename_i v h2 h3; cases e; exact evOp_wf hc hw (evOpB_inv h3).2
    · cases e
  · cases e; exact hw

theorem wants_congr {g : Option (Nat × Bool)} {s s' : Fr} (hs : ∀ t b, g = some (t, b) → s t = s' t) : wants g s = wants g s' := by
  cases g with
  | none => rfl
  | some p =>
    obtain ⟨t, b⟩ := p
    simp only [wants, hs t b rfl]

/-- One step: a value, a heap. -/
theorem evStep_inv {o : COper} {s s' : Fr} {h h' : AH} (e : evStep call o s h = some (s', h')) :
    ∃ v, s' = Fr.put s o.dst v ∧ ((wants o.guard s = true ∧ evOpB call o.op s h = some (v, h')) ∨ (wants o.guard s = false ∧ v = .undef ∧ h' = h)) := by
  unfold evStep at e
  split at e
  · rename_i hw
    split at e
    · rename_i v h2 h3; cases e; exact ⟨v, rfl, .inl ⟨hw, h3⟩⟩
    · cases e
  · rename_i hw
    cases e
    exact ⟨_, rfl, .inr ⟨by simpa using hw, rfl, rfl⟩⟩

theorem evStep_mk {o : COper} {s : Fr} {h h' : AH} {v : PV} (e : (wants o.guard s = true ∧ evOpB call o.op s h = some (v, h')) ∨ (wants o.guard s = false ∧ v = .undef ∧ h' = h)) :
    evStep call o s h = some (Fr.put s o.dst v, h') := by
  unfold evStep
  rcases e with ⟨h1, h2⟩ | ⟨h1, rfl, rfl⟩
  · rw [if_pos h1, h2]
  · rw [if_neg (by simp [h1])]

theorem put_get {s : Fr} {d : Option Nat} {v : PV} {t : Nat} (hd : ∀ x, d = some x → t ≠ x) : Fr.put s d v t = s t := by
  cases d with
  | none => rfl
  | some x => simp [Fr.put, hd x rfl]

theorem put_comm {s : Fr} {d e : Option Nat} {u v : PV} (hne : ∀ x y, d = some x → e = some y → x ≠ y) : Fr.put (Fr.put s d u) e v = Fr.put (Fr.put s e v) d u := by
  cases d with
  | none => rfl
  | some x =>
    cases e with
    | none => rfl
    | some y =>
      have := hne x y rfl rfl
      funext t
      simp only [Fr.put]
      by_cases h1 : t = y
      · subst h1; rw [if_pos rfl, if_neg (fun q => this q.symm), if_pos rfl]
      · rw [if_neg h1]
        by_cases h2 : t = x
        · rw [if_pos h2, if_pos h2]
        · rw [if_neg h2, if_neg h2, if_neg h1]

theorem notIn_spec {d : Option Nat} {l : List Nat} (h : notIn d l = true) : ∀ t ∈ l, ∀ x, d = some x → t ≠ x := by
  intro t ht x hx q
  subst hx q
  simp [notIn] at h
  exact h ht

/-- A step sees only its own slots. -/
theorem step_slots {o : COper} {s s2 : Fr} {h h' : AH} {v : PV} (hs : ∀ t ∈ o.reads, s t = s2 t)
    (e : (wants o.guard s = true ∧ evOpB call o.op s h = some (v, h')) ∨ (wants o.guard s = false ∧ v = .undef ∧ h' = h)) :
    (wants o.guard s2 = true ∧ evOpB call o.op s2 h = some (v, h')) ∨ (wants o.guard s2 = false ∧ v = .undef ∧ h' = h) := by
  have h1 : wants o.guard s2 = wants o.guard s := wants_congr fun t b hg => (hs t (by simp [COper.reads, hg])).symm
  have h2 : evOpB call o.op s h = evOpB call o.op s2 h := evOpB_congr fun t ht => hs t (by simp [COper.reads, ht])
  rw [h1, ← h2]
  exact e

/-- What a step of a class does to the heap. -/
theorem step_heap {o : COper} {s : Fr} {h h' : AH} {v : PV} (hp : PureOk pu call) (hw : WFH h)
    (e : (wants o.guard s = true ∧ evOpB call o.op s h = some (v, h')) ∨ (wants o.guard s = false ∧ v = .undef ∧ h' = h)) :
    (cls pu o.op = 0 → h' = h ∧ ∀ h2, (wants o.guard s = true ∧ evOpB call o.op s h2 = some (v, h2)) ∨ (wants o.guard s = false ∧ v = .undef ∧ h2 = h2)) ∧
    (cls pu o.op = 1 → h' = h ∧ ∀ h2, h.le h2 → (wants o.guard s = true ∧ evOpB call o.op s h2 = some (v, h2)) ∨ (wants o.guard s = false ∧ v = .undef ∧ h2 = h2)) ∧
    (cls pu o.op = 2 → h.le h') := by
  rcases e with ⟨h1, h2⟩ | ⟨h1, rfl, rfl⟩
  · replace h2 := (evOpB_inv h2).2
    refine ⟨fun hc => ?_, fun hc => ?_, fun hc => cls2 hp hw hc h2⟩
    · obtain ⟨a, b⟩ := cls0 hc h2
      exact ⟨a, fun h3 => .inl ⟨h1, evOpB_mk (barOk_cls (pu := pu) (.inl hc)) (b h3)⟩⟩
    · obtain ⟨a, b⟩ := cls1 hp hc h2
      exact ⟨a, fun h3 hl => .inl ⟨h1, evOpB_mk (barOk_cls (pu := pu) (.inr hc)) (b h3 hl)⟩⟩
  · exact ⟨fun _ => ⟨rfl, fun _ => .inr ⟨h1, rfl, rfl⟩⟩, fun _ => ⟨rfl, fun _ _ => .inr ⟨h1, rfl, rfl⟩⟩, fun _ i B e => e⟩

theorem set_comm {h : AH} {i j : Nat} (hij : i ≠ j) (B C : Blk) : (h.set i B).set j C = (h.set j C).set i B := by
  unfold AH.set
  congr 1
  funext k
  by_cases h1 : k = j
  · subst h1; simp [Ne.symm hij]
  · simp [h1]
theorem rds_keep {h h2 : AH} {p : PV} {n : Nat} {ds : List PV} (hk : ∀ i, blkOf p = some i → h.blk i ≠ none → h2.blk i = h.blk i) (e : rds h p n = some ds) : rds h2 p n = some ds := by
  cases p with
  | pt i o =>
    simp only [rds] at e ⊢
    cases hr : h.row i with
    | none => simp [hr] at e
    | some cs =>
      have hb := hk i rfl (row_ne hr)
      have : h2.row i = some cs := by simp only [AH.row, hb]; exact hr
      simp only [hr] at e; rw [this]; exact e
  | _ => exact e
theorem rd1_keep {h h2 : AH} {p d : PV} (hk : ∀ i, blkOf p = some i → h.blk i ≠ none → h2.blk i = h.blk i) (e : rd1 h p = some d) : rd1 h2 p = some d := by
  cases p with
  | pt i o =>
    simp only [rd1] at e ⊢
    cases hr : h.row i with
    | none => simp [hr] at e
    | some cs =>
      have hb := hk i rfl (row_ne hr)
      have : h2.row i = some cs := by simp only [AH.row, hb]; exact hr
      simp only [hr] at e; rw [this]; exact e
  | _ => exact e
theorem sepOk_spec {s : Nat → PV} {ts : List Nat} {v : PV} {i : Nat} (e : sepOk s ts v = true) (hv : blkOf v = some i) : ∀ t ∈ ts, blkOf (s t) ≠ some i := by
  intro t ht q
  unfold sepOk at e
  rw [hv] at e
  simp only [List.all_eq_true] at e
  have := e t ht
  rw [q] at this
  simp at this
theorem wr_keep {h h2 : AH} {p v : PV} {n i : Nat} (e : wr h p v n = some h2) (hi : blkOf p ≠ some i) : h2.blk i = h.blk i := by
  cases p with
  | pt j o =>
    have hij : i ≠ j := fun q => hi (by rw [q]; rfl)
    simp only [wr] at e
    cases hr : h.row j with
    | none => simp [hr] at e
    | some cs =>
      simp only [hr] at e
      cases v <;> simp only at e <;> first
        | cases e; done
        | (split at e <;> first | (cases e; rw [AH.set_blk, if_neg hij]) | (cases e; done))
  | _ => simp [wr] at e
theorem app_keep {h h2 : AH} {z b i : Nat} {x y v : PV} (hw : WFH h) (e : evApp h z b x y = some (v, h2)) (hi : blkOf x ≠ some i) (hb : h.blk i ≠ none) : h2.blk i = h.blk i := by
  have hn : i ≠ h.nx := fun q => hb (by rw [q]; exact hw _ (Nat.le_refl _))
  simp only [evApp] at e
  split at e
  · split at e <;> first | (cases e; rfl) | (cases e; done)
  · split at e
    · split at e
      · cases e; rw [AH.push_blk, if_neg hn]
      · cases e
    · rename_i z' j o n
      have hij : i ≠ j := fun q => hi (by rw [q]; rfl)
      split at e
      · split at e
        · cases e
          rw [AH.push_blk, if_neg (show i ≠ (h.del j).nx from hn), AH.del_blk, if_neg hij]
        · cases e
      · cases e
    · cases e
  · cases e
/-- A load, and a write of another block. -/
theorem sep_keep {x y : COp} {s : Fr} {h h2 : AH} {v : PV} (hw : WFH h) (hp : sepPair x y = true) (e : evOp call y s h = some (v, h2)) : ∃ g n t, x = .load g n (.t t) ∧ ∀ i, blkOf (s t) = some i → h.blk i ≠ none → h2.blk i = h.blk i := by
  unfold sepPair at hp
  split at hp
  · rename_i g n t ts m a z
    refine ⟨g, n, t, rfl, fun i hi hb => ?_⟩
    simp only [evOp] at e
    split at e
    · rename_i hs
      split at e
      · rename_i h3 hwr
        cases e
        refine wr_keep hwr fun q => sepOk_spec hs q t (by simpa using hp) hi
      · cases e
    · cases e
  · rename_i g n t ts m bb a z
    refine ⟨g, n, t, rfl, fun i hi hb => ?_⟩
    simp only [evOp] at e
    split at e
    · rename_i hs
      exact app_keep hw e (fun q => sepOk_spec hs q t (by simpa using hp) hi) hb
    · cases e
  · cases hp
theorem mkR_inv {k z b : Nat} {zs : List PV} {l c : Opd} {s : Fr} {h h' : AH} {v : PV} (e : evOp call (.mksliceR k z b zs l c) s h = some (v, h')) :
    ∃ l' c', l.val s = .int .i64 l' ∧ c.val s = .int .i64 c' ∧ ((0 ≤ l' ∧ l' ≤ c' ∧ roomOk c'.toNat (b + 1) = true) ∧ (k < h.nx ∧ h.lo ≤ h.nx - 1 - k ∧ (h.blk (h.nx - 1 - k)).isNone = true)) ∧
      v = .rf z (h.nx - 1 - k) 0 l'.toNat ∧ h' = h.set (h.nx - 1 - k) (.cells (List.replicate l'.toNat zs).flatten) := by
  simp only [evOp] at e
  split at e
  · rename_i l' c' h1 h2
    split at e
    · rename_i hq; cases e; exact ⟨l', c', h1, h2, hq, rfl, rfl⟩
    · cases e
  · cases e
theorem mkR_mk {k z b : Nat} {zs : List PV} {l c : Opd} {s : Fr} {h : AH} {l' c' : Int} (h1 : l.val s = .int .i64 l') (h2 : c.val s = .int .i64 c') (hq : (0 ≤ l' ∧ l' ≤ c' ∧ roomOk c'.toNat (b + 1) = true) ∧ (k < h.nx ∧ h.lo ≤ h.nx - 1 - k ∧ (h.blk (h.nx - 1 - k)).isNone = true)) :
    evOp call (.mksliceR k z b zs l c) s h = some (.rf z (h.nx - 1 - k) 0 l'.toNat, h.set (h.nx - 1 - k) (.cells (List.replicate l'.toNat zs).flatten)) := by
  simp only [evOp, h1, h2]
  rw [if_pos hq]
theorem resK_inv {o : COp} {k : Nat} (e : resK o = some k) : ∃ z b zs l c, o = .mksliceR k z b zs l c := by
  cases o <;> simp [resK] at e
  subst e
  exact ⟨_, _, _, _, _, rfl⟩
theorem resPair_inv {x y : COp} (e : resPair x y = true) : ∃ k k', resK x = some k ∧ resK y = some k' ∧ k ≠ k' := by
  unfold resPair at e
  split at e
  · rename_i k k' h1 h2; exact ⟨k, k', h1, h2, by simpa using e⟩
  · cases e

/-- Two steps that are apart, turned round. -/
theorem swap2 {x y : COper} {s s1 s2 : Fr} {h h1 h2 : AH} (hp : PureOk pu call) (hc : WfOk call) (hw : WFH h) (ha : apartC pu x y = true) (e1 : evStep call x s h = some (s1, h1)) (e2 : evStep call y s1 h1 = some (s2, h2)) :
    ∃ s1' h1', evStep call y s h = some (s1', h1') ∧ evStep call x s1' h1' = some (s2, h2) := by
  have hw1 := evStep_wf hc hw e1
  obtain ⟨vx, rfl, ex⟩ := evStep_inv e1
  obtain ⟨vy, rfl, ey⟩ := evStep_inv e2
  simp only [apartC, Bool.and_eq_true] at ha
  obtain ⟨⟨⟨a1, a2⟩, a3⟩, a4⟩ := ha
  have n1 := notIn_spec a1
  have n2 := notIn_spec a2
  have n3 : ∀ p q, x.dst = some p → y.dst = some q → p ≠ q := by
    intro p q hp hq
    rw [hp, hq] at a3
    simpa using a3
  -- y sees what it saw ahead of x
  have ey' := step_slots (s2 := s) (fun t ht => put_get (fun z hz => n1 t ht z hz)) ey
  -- x sees what it saw, behind y
  have ex' := step_slots (s2 := Fr.put s y.dst vy) (fun t ht => (put_get (fun z hz => n2 t ht z hz)).symm) ex
  obtain ⟨x0, x1, x2⟩ := step_heap hp hw ex'
  obtain ⟨y0, y1, y2⟩ := step_heap hp hw1 ey'
  have fin : ∀ h1', ((wants y.guard s = true ∧ evOpB call y.op s h = some (vy, h1')) ∨ (wants y.guard s = false ∧ vy = .undef ∧ h1' = h)) →
      ((wants x.guard (Fr.put s y.dst vy) = true ∧ evOpB call x.op (Fr.put s y.dst vy) h1' = some (vx, h2)) ∨ (wants x.guard (Fr.put s y.dst vy) = false ∧ vx = .undef ∧ h2 = h1')) →
      ∃ s1' h1', evStep call y s h = some (s1', h1') ∧ evStep call x s1' h1' = some (Fr.put (Fr.put s x.dst vx) y.dst vy, h2) := by
    intro h1' k1 k2
    refine ⟨_, h1', evStep_mk k1, ?_⟩
    rw [put_comm n3]
    exact evStep_mk k2
  simp only [okPair, Bool.or_eq_true, Bool.and_eq_true, beq_iff_eq] at a4
  rcases a4 with (((q | q) | ⟨q, q' | q'⟩) | q) | q
  · obtain ⟨rfl, g⟩ := x0 q
    exact fin h2 ey' (g h2)
  · obtain ⟨rfl, g⟩ := y0 q
    exact fin h (g h) ex'
  · obtain ⟨rfl, g⟩ := x1 q
    obtain ⟨rfl, g'⟩ := y1 q'
    exact fin _ ey' (g _ (fun i B e => e))
  · obtain ⟨rfl, g⟩ := x1 q
    exact fin h2 ey' (g h2 (y2 q'))
  · have hx1 : cls pu x.op = 1 := by
      unfold sepPair at q
      split at q
      · rename_i h1 _; rw [h1]; rfl
      · rename_i h1 _; rw [h1]; rfl
      · cases q
    obtain ⟨rfl, _⟩ := x1 hx1
    refine fin h2 ey' ?_
    rcases ex' with ⟨e1, e2⟩ | ⟨e1, e2, e3⟩
    · refine .inl ⟨e1, ?_⟩
      rcases ey' with ⟨_, f2⟩ | ⟨_, _, rfl⟩
      · obtain ⟨g, n, t, hxo, hk⟩ := sep_keep hw q (evOpB_inv f2).2
        have htd : (Fr.put s y.dst vy) t = s t := put_get fun z hz => n2 t (by simp [COper.reads, hxo, COp.slots, Opd.slots]) z hz
        rw [← htd] at hk
        have e2' := (evOpB_inv e2).2
        refine evOpB_mk (by rw [hxo]; rfl) ?_
        rw [hxo] at e2' ⊢
        simp only [evOp] at e2' ⊢
        obtain ⟨e3, _⟩ := keep_inv e2'
        cases g with
        | true =>
          simp only [if_true, Option.map_eq_some_iff] at e3 ⊢
          obtain ⟨ds, d1, rfl⟩ := e3
          simp only [Opd.val] at d1 ⊢
          rw [rds_keep hk d1]; rfl
        | false =>
          simp only [Bool.false_eq_true, if_false, Opd.val] at e3 ⊢
          rw [rd1_keep hk e3]; rfl
      · exact e2
    · exact .inr ⟨e1, e2, rfl⟩
  · obtain ⟨k, k', r1, r2, hkk⟩ := resPair_inv q
    obtain ⟨z, b, zs, l, c, hxo⟩ := resK_inv r1
    obtain ⟨z', b', zs', l', c', hyo⟩ := resK_inv r2
    have bx : ∀ s h, barOk x.op s h = true := fun s h => by rw [hxo]; rfl
    have by' : ∀ s h, barOk y.op s h = true := fun s h => by rw [hyo]; rfl
    rcases ex' with ⟨ea, eb⟩ | ⟨ea, eb, rfl⟩
    · rcases ey' with ⟨f1, f2⟩ | ⟨f1, f2, rfl⟩
      · have e3 := (evOpB_inv eb).2
        have f3 := (evOpB_inv f2).2
        rw [hxo] at e3
        rw [hyo] at f3
        obtain ⟨L, C, u1, u2, ⟨u3, u4, u5, u6⟩, rfl, rfl⟩ := mkR_inv e3
        obtain ⟨L', C', w1, w2, ⟨w3, w4, w5, w6⟩, rfl, rfl⟩ := mkR_inv f3
        simp only [show ∀ i B, (AH.set h i B).nx = h.nx from fun _ _ => rfl, show ∀ i B, (AH.set h i B).lo = h.lo from fun _ _ => rfl] at w4 w5 w6 eb f2 ⊢
        have hne : h.nx - 1 - k' ≠ h.nx - 1 - k := by omega
        rw [AH.set_blk, if_neg hne] at w6
        have my := mkR_mk (call := call) (k := k') (z := z') (zs := zs') (h := h) w1 w2 ⟨w3, w4, w5, w6⟩
        have mx := mkR_mk (call := call) (k := k) (z := z) (zs := zs) (h := h.set (h.nx - 1 - k') (.cells (List.replicate L'.toNat zs').flatten)) u1 u2 ⟨u3, u4, u5, by
          show ((h.set (h.nx - 1 - k') _).blk (h.nx - 1 - k)).isNone = true
          rw [AH.set_blk, if_neg (Ne.symm hne)]; exact u6⟩
        refine fin _ (.inl ⟨f1, evOpB_mk (by' _ _) (by rw [hyo]; exact my)⟩) (.inl ⟨ea, evOpB_mk (bx _ _) ?_⟩)
        rw [hxo]
        refine Eq.trans mx ?_
        exact congrArg (fun q => some (PV.rf z (h.nx - 1 - k) 0 L.toNat, q)) (set_comm hne _ _)
      · exact fin h (.inr ⟨f1, f2, rfl⟩) (.inl ⟨ea, eb⟩)
    · exact fin h2 ey' (.inr ⟨ea, eb, rfl⟩)

def evSeq (call : Nat → List PV → AH → Option (PV × AH)) (cops : List COper) : List Nat → Fr → AH → Option (Fr × AH)
  | [], s, h => some (s, h)
  | i :: l, s, h => match cops[i]? with
    | some o => match evStep call o s h with
      | some (s', h') => evSeq call cops l s' h'
      | none => none
    | none => none

theorem evOps_step (o : COper) (r : List COper) (s : Fr) (h : AH) : evOps call (o :: r) s h = match evStep call o s h with | some (s', h') => evOps call r s' h' | none => none := by
  simp only [evOps, evStep]
  by_cases hw : wants o.guard s = true
  · simp only [hw, if_true]
    cases evOpB call o.op s h with
    | none => rfl
    | some p => rfl
  · simp only [hw, if_false, Bool.false_eq_true]

theorem evSeq_range (cops : List COper) : ∀ (r pre : List COper) (s : Fr) (h : AH), cops = pre ++ r → evOps call r s h = evSeq call cops (List.range' pre.length r.length) s h
  | [], pre, s, h, e => by simp [evOps, evSeq]
  | o :: r, pre, s, h, e => by
    have hi : cops[pre.length]? = some o := by rw [e]; simp
    rw [evOps_step, List.length_cons, List.range'_succ]
    simp only [evSeq, hi]
    cases hs : evStep call o s h with
    | none => rfl
    | some p =>
      obtain ⟨s', h'⟩ := p
      have := evSeq_range cops r (pre ++ [o]) s' h' (by rw [e]; simp)
      simpa using this

theorem move_front {cops : List COper} {i : Nat} {oi : COper} (hp : PureOk pu call) (hc : WfOk call) (hi : cops[i]? = some oi) : ∀ (pre post : List Nat) (s : Fr) (h : AH) (F : Fr × AH), WFH h →
    (∀ j ∈ pre, ∃ oj, cops[j]? = some oj ∧ apartC pu oj oi = true) → evSeq call cops (pre ++ i :: post) s h = some F → evSeq call cops (i :: (pre ++ post)) s h = some F
  | [], post, s, h, F, _, _, e => e
  | j :: pre, post, s, h, F, hw, ha, e => by
    obtain ⟨oj, hj, hap⟩ := ha j (by simp)
    simp only [List.cons_append, evSeq, hj] at e
    cases h1 : evStep call oj s h with
    | none => simp [h1] at e
    | some p =>
      obtain ⟨s1, hh1⟩ := p
      simp only [h1] at e
      have ih := move_front hp hc hi pre post s1 hh1 F (evStep_wf hc hw h1) (fun k hk => ha k (by simp [hk])) e
      simp only [evSeq, hi] at ih
      cases h2 : evStep call oi s1 hh1 with
      | none => simp [h2] at ih
      | some p =>
        obtain ⟨s2, hh2⟩ := p
        simp only [h2] at ih
        obtain ⟨s1', h1', k1, k2⟩ := swap2 hp hc hw hap h1 h2
        simp only [List.cons_append, evSeq, hi, hj, k1, k2]
        exact ih

theorem befs_spec : ∀ (l acc : List (List Nat)), (∀ i, i < acc.length → (befs acc l).getD i [] = acc.getD i []) ∧
    ∀ i, acc.length ≤ i → i < acc.length + l.length → ∀ j ∈ (befs acc l).getD i [], j ∈ l.getD (i - acc.length) [] ∨ ∃ e ∈ l.getD (i - acc.length) [], e < i ∧ j ∈ (befs acc l).getD e []
  | [], acc => by
    refine ⟨fun i _ => rfl, fun i h1 h2 => ?_⟩
    simp at h2; omega
  | es :: l, acc => by
    obtain ⟨ih1, ih2⟩ := befs_spec l (acc ++ [(es ++ es.flatMap fun e => acc.getD e []).eraseDups])
    simp only [List.length_append, List.length_singleton] at ih1 ih2
    refine ⟨fun i hi => ?_, fun i h1 h2 j hj => ?_⟩
    · have := ih1 i (by omega)
      simp only [befs]
      rw [this]
      simp [List.getD_eq_getElem?_getD, List.getElem?_append_left hi]
    · simp only [List.length_cons] at h2
      simp only [befs] at hj ⊢
      by_cases q : i = acc.length
      · subst q
        rw [ih1 acc.length (by omega)] at hj
        have e0 : (acc ++ [(es ++ es.flatMap fun e => acc.getD e []).eraseDups]).getD acc.length [] = (es ++ es.flatMap fun e => acc.getD e []).eraseDups := by simp
        rw [e0, List.mem_eraseDups] at hj
        simp only [Nat.sub_self, List.getD_cons_zero]
        rcases List.mem_append.1 hj with g | g
        · exact .inl g
        · obtain ⟨e, he, hj'⟩ := List.mem_flatMap.1 g
          have hlt : e < acc.length := by
            rcases Nat.lt_or_ge e acc.length with q | q
            · exact q
            · simp [List.getD_eq_getElem?_getD, List.getElem?_eq_none q] at hj'
          refine .inr ⟨e, he, hlt, ?_⟩
          rw [ih1 e (by omega)]
          simpa [List.getD_eq_getElem?_getD, List.getElem?_append_left hlt] using hj'
      · have := ih2 i (by omega) (by omega) j hj
        have e1 : i - acc.length = (i - (acc.length + 1)) + 1 := by omega
        rw [e1]
        simpa using this
end
end Go.Ev

/- Statements: where the abstract machine gets through, the machine does, and to what stands for it. -/
set_option linter.unusedVariables false
set_option linter.unusedSimpArgs false
namespace Go.Ev
section
variable {P : Program} {call : Nat → List PV → AH → Option (PV × AH)} {pu : Nat → Bool}

/-- A function that can be entered. -/
def Callable (P : Program) (f : Nat) : Prop := ∃ fn, P.funcs[f]? = some fn ∧ (fn.name == "runtime.NumGoroutine") = false ∧ fn.body.isNone = false

/-- What a call leaves. -/
def Post (ρ : Nat → Option (Nat × Nat)) (I : Nat → Prop) (h : AH) (w : World) (r : PV) (h' : AH) : Ending → World → Prop :=
  fun e w' => ∃ ρ' I' u, e = .returned u ∧ St ρ I h w ρ' I' h' w' ∧ SR ρ' I' h' w' ∧ VR ρ' I' w' u r

def CallOk (P : Program) (call : Nat → List PV → AH → Option (PV × AH)) : Prop :=
  ∀ f as h r h', call f as h = some (r, h') → Callable P (rl f) ∧ ∀ ρ I w us, SR ρ I h w → VRL ρ I w us as → Calls P (rl f) us w (Post ρ I h w r h')

variable {ρ : Nat → Option (Nat × Nat)} {I : Nat → Prop} {h h' : AH} {w : World} {nt : Nat} {a : Act} {s s' : Fr} {v : PV}

theorem run_callFunc {f : Nat} {args : Array Value} (hf : Callable P f) : (callFunc f args).run P w = .ok (.enter f args) w := by
  obtain ⟨fn, h1, h2, h3⟩ := hf
  simp only [callFunc, Sem.run_bind, run_program, Result.andThen_ok, h1]
  simp [h2, h3]

theorem VRL.append {us vs : Array Value} {as bs : List PV} (h1 : VRL ρ I w us as) (h2 : VRL ρ I w vs bs) : VRL ρ I w (us ++ vs) (as ++ bs) := by
  obtain ⟨a1, a2⟩ := h1
  obtain ⟨b1, b2⟩ := h2
  refine ⟨by simp [a1, b1], fun j hj => ?_⟩
  have hj' : j < as.length + bs.length := by simpa using hj
  simp only [Array.getD_eq_getD_getElem?, Array.getElem?_append, List.getElem_append]
  by_cases q : j < as.length
  · rw [if_pos (by omega)]
    simp only [q, dite_true]
    have := a2 j q
    simpa [Array.getD_eq_getD_getElem?] using this
  · rw [if_neg (by omega)]
    simp only [q, dite_false]
    have := b2 (j - as.length) (by omega)
    rw [a1]
    simpa [Array.getD_eq_getD_getElem?] using this

/-- A call among the operations. -/
theorem call_run {o : Oper} {c : COp} {ow : Nat} {c' : Call} (ho : o.op = .call c') (hc : compOp P ow o.op = some c) (hf : FR ρ I w nt a s) (ev : evOp call c s h = some (v, h')) (hn : c.notCall = false) (hco : CallOk P call) :
    ∃ f us as, call f as h = some (v, h') ∧ VRL ρ I w us as ∧ (execOp a.eval o).run P w = .ok (.enter (rl f) us) w := by
  · rw [ho] at hc
    obtain ⟨cal, args, ats⟩ := c'
    simp only [compOp, compCall] at hc
    have amap : ∀ xs, opds args.toList = some xs → VRL ρ I w (args.map a.eval) (xs.map (Opd.val s)) := by
      intro xs hx
      have := opds_vr _ _ hx hf
      have e : (args.toList.map a.eval).toArray = args.map a.eval := by
        rw [← Array.toList_inj]; simp
      rw [e] at this
      exact this
    split at hc
    · rename_i f
      split at hc
      · rename_i hlt
        simp only [Option.map_eq_some_iff] at hc
        obtain ⟨xs, hx, rfl⟩ := hc
        refine ⟨_, args.map a.eval, _, ev, amap xs hx, ?_⟩
        obtain ⟨hcl, _⟩ := hco _ _ _ _ _ ev
        have hrl : rl (if ow = 1 then f + vb else f) = f := by
          unfold rl
          split
          · rw [Nat.add_mod_right, Nat.mod_eq_of_lt hlt]
          · exact Nat.mod_eq_of_lt hlt
        rw [hrl] at hcl ⊢
        simp only [execOp, ho, resolve, Act.eval, Deferred.ofValue]
        simp [invoke, run_callFunc hcl]
      · cases hc
    · rename_i x hne
      split at hc
      · rename_i X xs hX hx
        have hc := Option.some.inj hc
        by_cases how : 2 ≤ ow
        case pos =>
          rw [if_pos how] at hc
          subst hc
          simp only [evOp] at ev
          split at ev
          · rename_i g' hg
            split at ev
            case isFalse => cases ev
            rename_i hlt
            obtain ⟨hgg, hlt⟩ := hlt
            subst hgg
            have hv := opd_vr hX hf
            rw [hg] at hv
            obtain ⟨hcl, _⟩ := hco _ _ _ _ _ ev
            have hrl : rl (ow - 2) = ow - 2 := Nat.mod_eq_of_lt hlt
            rw [hrl] at hcl
            generalize hux : a.eval x = ux at hv
            cases hv with
            | fn h1 h2 h3 h4 =>
              rename_i F C
              obtain rfl : F = #[] := Array.eq_empty_of_size_eq_zero (by simpa using h1)
              obtain rfl : C = #[] := Array.eq_empty_of_size_eq_zero (by simpa using h2)
              refine ⟨ow - 2, args.map a.eval, _, ev, amap xs hx, ?_⟩
              rw [hrl]
              simp only [execOp, ho, resolve, hux, Deferred.ofValue]
              simp [invoke, run_callFunc hcl]
          · cases ev
        rw [if_neg how] at hc
        subst hc
        simp only [evOp] at ev
        split at ev
        · rename_i g fs cs hg
          split at ev
          case isFalse => cases ev
          rename_i hlt
          have hv := opd_vr hX hf
          rw [hg] at hv
          obtain ⟨hcl, _⟩ := hco _ _ _ _ _ ev
          have hrl : rl g = g := Nat.mod_eq_of_lt hlt
          rw [hrl] at hcl
          generalize hux : a.eval x = ux at hv
          cases hv with
          | fn h1 h2 h3 h4 =>
            rename_i F C
            refine ⟨g, F ++ args.map a.eval ++ C, _, ev, ?_, ?_⟩
            rotate_left
            · rw [hrl]
              simp only [execOp, ho, resolve, hux, Deferred.ofValue]
              simp [invoke, run_callFunc hcl]
            · exact (VRL.append ⟨h1, h3⟩ (amap xs hx)).append ⟨h2, h4⟩
        · cases ev
      · cases hc
    · cases hc
    · (repeat' split at hc) <;> first
        | (cases hc; cases hn)
        | cases hc

/-- One operation. -/
theorem wp_oper {o : Oper} {c : COp} {ow : Nat} {K : Act → World → Prop} {Q : Exit → Act → World → Prop} (hc : compOp P ow o.op = some c) (hf : FR ρ I w nt a s) (hs : SR ρ I h w) (ev : evOp call c s h = some (v, h')) (hco : CallOk P call)
    (hK : ∀ u w' ρ' I', St ρ I h w ρ' I' h' w' → SR ρ' I' h' w' → VR ρ' I' w' u v → K (a.put o.dst u) w') : o.wp P a w K Q := by
  by_cases hcall : (∃ c', o.op = .call c') ∧ c.notCall = false
  · obtain ⟨⟨c', ho⟩, hn⟩ := hcall
    obtain ⟨f, us, as, e1, e2, e3⟩ := call_run ho hc hf ev hn hco
    obtain ⟨_, hcalls⟩ := hco _ _ _ _ _ e1
    unfold Oper.wp
    rw [e3]
    refine (hcalls ρ I w us hs e2).mono fun e w' he => ?_
    obtain ⟨ρ', I', u, rfl, st, hs', hv⟩ := he
    exact hK u w' ρ' I' st hs' hv
  · have hn : ∀ c', o.op = .call c' → c.notCall = true := by
      intro c' ho
      cases hq : c.notCall with
      | true => rfl
      | false => exact absurd ⟨⟨c', ho⟩, hq⟩ hcall
    obtain ⟨u, w', ρ', I', hr, st, hs', hv⟩ := op_out hc hf hs ev hn
    unfold Oper.wp
    rcases hr with hr | ⟨hr, rfl⟩
    · rw [hr]; exact hK u w' ρ' I' st hs' hv
    · rw [hr]; exact hK _ w' ρ' I' st hs' hv

/-- An operation in another form: with a check. -/
def cv (c0 c : COp) : Prop := c = c0 ∨ (∃ ts n a x, c0 = .store n a x ∧ c = .storeS ts n a x) ∨ (∃ ts z b x y, c0 = .app z b x y ∧ c = .appS ts z b x y) ∨
  ∃ g n a, c0 = .load g n a ∧ c = .loadi g n a

theorem cv_ev {c0 c : COp} {h h' : AH} {v : PV} {s : Fr} (hc : cv c0 c) (e : evOp call c s h = some (v, h')) : evOp call c0 s h = some (v, h') := by
  rcases hc with rfl | ⟨ts, n, a, x, rfl, rfl⟩ | ⟨ts, z, b, x, y, rfl, rfl⟩ | ⟨g, n, a, rfl, rfl⟩
  · exact e
  · simp only [evOp] at e ⊢
    split at e
    · exact e
    · cases e
  · simp only [evOp] at e ⊢
    split at e
    · exact e
    · cases e
  · simp only [evOp] at e ⊢
    split at e
    · rename_i cs hcs; rw [hcs]; exact e
    · cases e

/- The region's operations and the translation's. -/
structure Pair (P : Program) (ow : Nat → Nat) (nt : Nat) (all : Array Oper) (o : Oper) (c : COper) : Prop where
  dst : c.dst = o.dst
  op : (∃ b c0, compOp P b o.op = some c0 ∧ cv c0 c.op) ∨ c.op = .bad
  dlt : ∀ d, o.dst = some d → d < nt
  guard : (o.guard = none ∧ c.guard = none) ∨ ∃ j want d, o.guard = some (j, want) ∧ (all[j]?).bind (·.dst) = some d ∧ c.guard = some (d, want) ∧ d < nt

theorem compOpers_get {ow : Nat → Nat} {all : Array Oper} : ∀ (ops : List Oper) (cops : List COper), compOpers P ow nt all ops = some cops → cops.length = ops.length ∧ ∀ (i : Nat) o c, ops[i]? = some o → cops[i]? = some c → Pair P ow nt all o c
  | [], cops, e => by cases e; exact ⟨rfl, fun i o c h => by simp at h⟩
  | o :: r, cops, e => by
    simp only [compOpers] at e
    split at e
    · rename_i g rest hg hr
      split at e
      · rename_i hok
        cases e
        obtain ⟨h1, h2⟩ := compOpers_get r rest hr
        refine ⟨by simp [h1], fun i o' c' ho hc => ?_⟩
        cases i with
        | succ i => exact h2 i o' c' (by simpa using ho) (by simpa using hc)
        | zero =>
          simp at ho hc
          subst ho hc
          simp only [slotsOk, Bool.and_eq_true] at hok
          obtain ⟨k1, k2⟩ := hok
          refine ⟨rfl, ?_, ?_, ?_⟩
          · simp only
            cases hcomp : compOp P (match o.dst with | some d => ow d | none => 0) o.op with
            | none => right; rfl
            | some c => left; exact ⟨_, _, hcomp, .inl rfl⟩
          · intro d hd
            rw [hd] at k1
            simpa using k1
          · simp only [compGuard] at hg
            split at hg
            · rename_i hgn
              cases hg
              exact .inl ⟨hgn, rfl⟩
            · rename_i j want hgs
              split at hg
              · rename_i d hd
                cases hg
                exact .inr ⟨j, want, d, hgs, hd, rfl, by simpa using k2⟩
              · cases hg
      · cases e
    · cases e

theorem wanted_eq {ow : Nat → Nat} {all : Array Oper} {o : Oper} {c : COper} (hp : Pair P ow nt all o c) (hf : FR ρ I w nt a s) : Region.wanted o (yielded all a.tmps) = wants c.guard s := by
  rcases hp.guard with ⟨h1, h2⟩ | ⟨j, want, d, h1, h2, h3, h4⟩
  · simp [Region.wanted, h1, h2, wants]
  · have hv := hf.slot d
    have hlt : d < a.tmps.size := Nat.lt_of_lt_of_le h4 hf.size
    have hg : a.tmps[d]? = some (a.tmps.getD d undef) := by simp [Array.getD, hlt]
    simp only [Region.wanted, h1, h3, wants, yielded, h2, Option.bind_some, hg]
    generalize a.tmps.getD d undef = x at hv
    generalize s d = y at hv
    cases hv <;> first | rfl | (rename_i b; cases b <;> cases want <;> rfl)

/-- One step of a region. -/
theorem wp_step {ow : Nat → Nat} {all : Array Oper} {i : Nat} {o : Oper} {c : COper} {K : Act → World → Prop} {Q : Exit → Act → World → Prop} (hp : Pair P ow nt all o c) (hi : all[i]? = some o) (hf : FR ρ I w nt a s) (hs : SR ρ I h w)
    (ev : evStep call c s h = some (s', h')) (hco : CallOk P call) (hK : ∀ a' w' ρ' I', St ρ I h w ρ' I' h' w' → SR ρ' I' h' w' → FR ρ' I' w' nt a' s' → K a' w') : wpOp P all Q i K a w := by
  unfold wpOp
  simp only [hi]
  rw [wanted_eq hp hf]
  obtain ⟨v, rfl, e⟩ := evStep_inv ev
  have hdl : ∀ t, c.dst = some t → t < nt := by rw [hp.dst]; exact hp.dlt
  rcases e with ⟨e1, e2⟩ | ⟨e1, rfl, rfl⟩
  · rw [if_pos e1]
    left
    rcases hp.op with ⟨b, c0, hb, hcv⟩ | hb
    · refine wp_oper hb hf hs (cv_ev hcv (evOpB_inv e2).2) hco fun u w' ρ' I' st hs' hv => hK _ w' ρ' I' st hs' ?_
      rw [← hp.dst]
      exact (hf.step hs st).put hdl hv
    · rw [hb] at e2; cases (evOpB_inv e2).2
  · rw [if_neg (by simp [e1])]
    refine hK _ w ρ I .refl hs ?_
    rw [← hp.dst]
    exact hf.put hdl VR.undef

theorem VR.step' {n0 : Nat} {w' : World} {ρ' : Nat → Option (Nat × Nat)} {I' : Nat → Prop} {h' : AH} {u : Value} {v : PV} (hv : VR ρ I w u v) (hs : SR ρ I h w) (st : St ρ I ⟨n0, h.lo, h.blk⟩ w ρ' I' h' w') : VR ρ' I' w' u v :=
  hv.mono st.ext st.imm (fun b hb => st.keep b (hs.inI b hb) fun i o hl e => hs.apart i b o hl e hb) st.row
theorem BR.step' {n0 : Nat} {w' : World} {ρ' : Nat → Option (Nat × Nat)} {I' : Nat → Prop} {h' : AH} {B : Blk} {b o : Nat} (hB : BR ρ I w b o B) (hs : SR ρ I h w) (st : St ρ I ⟨n0, h.lo, h.blk⟩ w ρ' I' h' w') (e : w'.heap[b]? = w.heap[b]?) : BR ρ' I' w' b o B := by
  cases B with
  | cells cs =>
    obtain ⟨C, T, g1, g2, g3⟩ := hB
    exact ⟨C, T, e.trans g1, g2, fun j hj => (g3.1 j hj).step' hs st, g3.2⟩
  | map es =>
    obtain ⟨M, k, g1, g2, g3⟩ := hB
    exact ⟨M, k, e.trans g1, g2, fun j hj hj' => ⟨(g3 j hj hj').1.step' hs st, (g3 j hj hj').2.step' hs st⟩⟩

/-- A new block under a number that was set aside. -/
theorem SR.newAt (hs : SR ρ I h w) {C : Array Value} {T : TypeId} {cs : List PV} {n0 j : Nat} (hn0 : n0 ≤ j) (hj : j < h.nx) (hb0 : h.blk j = none) (hρ : ρ j = none)
    (hl : cs.length ≤ C.size) (hv : ∀ j (hj : j < cs.length), VR ρ I w (C.getD j undef) cs[j]) (ho : ∀ x ∈ cs, x.one = true) :
    SR (upd ρ j (w.heap.size, 0)) I (h.set j (.cells cs)) (w.alloc (.cells C T)) ∧ St ρ I ⟨n0, h.lo, h.blk⟩ w (upd ρ j (w.heap.size, 0)) I (h.set j (.cells cs)) (w.alloc (.cells C T)) := by
  have hsz : (w.alloc (.cells C T)).heap.size = w.heap.size + 1 := World.size_alloc _ _
  have hold : ∀ b, b < w.heap.size → (w.alloc (.cells C T)).heap[b]? = w.heap[b]? := fun b hb => RowKit.Below.heap_alloc _ _ _ hb
  generalize hw' : w.alloc (.cells C T) = w' at *
  have hos : w'.os = w.os := by rw [← hw']; rfl
  have htape : w'.tape = w.tape := by rw [← hw']; rfl
  have hout : w'.output = w.output := by rw [← hw']; rfl
  have hnew : w'.heap[w.heap.size]? = some (.cells C T (0, 0)) := by rw [← hw']; exact heap_alloc_new _ _
  have hb : ∀ i x, ρ i = some x → x.1 < w.heap.size ∨ h.blk i = none := by
    intro i x e
    cases e' : h.blk i with
    | none => exact .inr rfl
    | some B' =>
      obtain ⟨b, o, g, hB'⟩ := hs.live i B' e'
      rw [e] at g
      cases g
      left
      have : w.heap[b]? ≠ none := by
        cases B' <;> (obtain ⟨_, _, g, _⟩ := hB'; rw [g]; simp)
      rcases Nat.lt_or_ge b w.heap.size with q | q
      · exact q
      · exact absurd (Array.getElem?_eq_none q) this
  have st : St ρ I ⟨n0, h.lo, h.blk⟩ w (upd ρ j (w.heap.size, 0)) I (h.set j (.cells cs)) w' :=
    { ext := fun i x e => by
        have : i ≠ j := fun e' => by rw [e', hρ] at e; cases e
        simp [upd, this, e]
      imm := fun _ e => e, immNew := fun _ e => .inl e, os := hos, tape := htape, output := hout, size := by omega
      keep := fun b hb _ => hold b hb
      row := fun b C T f e => by
        have : b < w.heap.size := by
          rcases Nat.lt_or_ge b w.heap.size with q | q
          · exact q
          · rw [Array.getElem?_eq_none q] at e; cases e
        exact ⟨C, (hold b this).trans e, rfl⟩
      own := fun i b o hl e => by
        by_cases hi : i = j
        · simp [upd, hi] at e; left; omega
        · simp only [upd, hi, if_false] at e
          rw [AH.set_blk, if_neg hi] at hl
          exact .inr ⟨i, o, hl, e⟩
      nxle := by show n0 ≤ h.nx; omega
      low := fun i x e => by
        by_cases hi : i = j
        · right; show n0 ≤ i; omega
        · simp only [upd, hi, if_false] at e; exact .inl e }
  refine ⟨{ live := fun i B' e => ?_, inj := fun i k b o o' hi hk ei ej => ?_, apart := fun i b o hi ei => ?_, nx := fun i x e => ?_, inI := fun b e => by have := hs.inI b e; omega }, st⟩
  · by_cases hi : i = j
    · subst hi
      rw [AH.set_blk, if_pos rfl] at e
      cases e
      exact ⟨w.heap.size, 0, by simp [upd], C, T, hnew, by omega, fun k hk => by rw [Nat.zero_add]; exact (hv k hk).step' hs st, ho⟩
    · rw [AH.set_blk, if_neg hi] at e
      obtain ⟨b, o, g, hB'⟩ := hs.live i B' e
      refine ⟨b, o, by simp [upd, hi, g], hB'.step' hs st (hold b ?_)⟩
      rcases hb i _ g with q | q
      · exact q
      · rw [q] at e; cases e
  · by_cases hi' : i = j <;> by_cases hj' : k = j
    · omega
    · rw [AH.set_blk, if_neg hj'] at hk
      simp [upd, hi'] at ei
      simp [upd, hj'] at ej
      rcases hb k _ ej with q | q
      · simp at q; omega
      · exact absurd q hk
    · rw [AH.set_blk, if_neg hi'] at hi
      simp [upd, hj'] at ej
      simp [upd, hi'] at ei
      rcases hb i _ ei with q | q
      · simp at q; omega
      · exact absurd q hi
    · rw [AH.set_blk, if_neg hi'] at hi
      rw [AH.set_blk, if_neg hj'] at hk
      simp [upd, hi'] at ei
      simp [upd, hj'] at ej
      exact hs.inj i k b o o' hi hk ei ej
  · by_cases hi' : i = j
    · simp [upd, hi'] at ei
      intro hI
      have := hs.inI b hI
      omega
    · rw [AH.set_blk, if_neg hi'] at hi
      simp [upd, hi'] at ei
      exact hs.apart i b o hi ei
  · by_cases hi' : i = j
    · show i < h.nx; omega
    · simp [upd, hi'] at e
      exact hs.nx i x e

theorem mksliceR_ok {t e : TypeId} {z by_ : Nat} {zs : List PV} {l c : Int} {n0 j : Nat} (hs : SR ρ I h w) (hn0 : n0 ≤ j) (hj : j < h.nx) (hb0 : h.blk j = none) (hρ : ρ j = none)
    (hu : P.underlying t = some (.slice e)) (hz : szT P e = some z) (hb : bytesT P e = some by_) (hzc : zeroCells P e = some zs) (hl : zs.length = z ∧ 0 < z) (h0 : 0 ≤ l ∧ l ≤ c ∧ roomOk c.toNat (by_ + 1) = true) :
    ∃ r w' ρ', (Instr.makeSlice t (.int .i64 l) (.int .i64 c)).run P w = .ok r w' ∧ St ρ I ⟨n0, h.lo, h.blk⟩ w ρ' I (h.set j (.cells (List.replicate l.toNat zs).flatten)) w' ∧ SR ρ' I (h.set j (.cells (List.replicate l.toNat zs).flatten)) w' ∧ VR ρ' I w' r (.rf z j 0 l.toNat) ∧
      ∀ i, i ≠ j → ρ' i = ρ i := by
  obtain ⟨zv, z1, z2⟩ := zeroCells_inv hzc
  obtain ⟨i, hi, hi2⟩ := szT_info hz
  have hi3 : i.bytes = by_ := by simp [bytesT, hi] at hb; exact hb
  have hi4 : i.zero = some zv := by simp [zeroT, hi] at z1; exact z1
  obtain ⟨h1, h2, h3⟩ := h0
  obtain ⟨r1, r2⟩ := roomOk_le h3
  have hbytes : (i.bytes : Int) * c ≤ 281474976710656 := by
    rw [hi3]
    have : (by_ : Int) * c = ((c.toNat * by_ : Nat) : Int) := by
      rw [Int.natCast_mul, Int.toNat_of_nonneg (by omega), Int.mul_comm]
    rw [this]
    omega
  have hrun := run_make (P := P) w t e i zv hu hi hi4 .i64 .i64 l c h1 h2 hbytes (by omega)
  have hzv : VRA ρ I w zv.cells zs := zero_vra z2
  have hzlen : zs.length = z := hl.1
  have hr := reps_vra (n := c.toNat) hzv (by omega)
  have hpos : 0 < zs.length := by omega
  have hget : ∀ j (hj : j < ((List.replicate l.toNat zs).flatten).length), VR ρ I w ((madeCells zv.cells (c.toNat * i.size)).getD j undef) ((List.replicate l.toNat zs).flatten)[j] := by
    intro j hj
    have hj1 : j < l.toNat * zs.length := by simpa using hj
    have hle : l.toNat * zs.length ≤ c.toNat * zs.length := Nat.mul_le_mul_right _ (by omega)
    have hj2 : j < ((List.replicate c.toNat zs).flatten).length := by simp; omega
    have e1 := flatten_get zs hpos l.toNat j
    have e2 := flatten_get zs hpos c.toNat j
    rw [if_pos hj1, List.getElem?_eq_getElem hj] at e1
    rw [if_pos (by omega), List.getElem?_eq_getElem hj2] at e2
    have e3 : ((List.replicate l.toNat zs).flatten)[j] = ((List.replicate c.toNat zs).flatten)[j] := Option.some.inj (e1.trans e2.symm)
    rw [e3]
    have := hr.2.1 j hj2
    rw [hzlen] at this
    rw [hi2]
    exact this
  obtain ⟨g1, g2⟩ := hs.newAt (T := e) (C := madeCells zv.cells (c.toNat * i.size)) (cs := (List.replicate l.toNat zs).flatten) hn0 hj hb0 hρ (by
    rw [size_madeCells, hi2]
    simp only [List.length_flatten, List.map_replicate, List.sum_replicate_nat, hzlen]
    exact Nat.mul_le_mul_right _ (by omega)) hget (fun x hx => by
      simp only [List.mem_flatten, List.mem_replicate] at hx
      obtain ⟨l', ⟨_, rfl⟩, hx⟩ := hx
      exact hzv.2.2 x hx)
  refine ⟨_, _, _, hrun, g2, g1, ?_, fun i hi => by simp [upd, hi]⟩
  have : VR (upd ρ j (w.heap.size, 0)) I (w.alloc (.cells (madeCells zv.cells (c.toNat * i.size)) e)) (.slice (some ⟨w.heap.size, 0 + 0, none⟩) l.toNat c.toNat) (.rf z j 0 l.toNat) :=
    .rf (by simp [upd]) (by omega) (heap_alloc_new w _) (by rw [size_madeCells, hi2]; omega)
  simpa using this

/-- An operation whose block was set aside. -/
structure PairR (P : Program) (ow : Nat → Nat) (nt : Nat) (all : Array Oper) (o : Oper) (c : COper) (k z b : Nat) (zs : List PV) (l l' : Opd) : Prop where
  op : c.op = .mksliceR k z b zs l l'
  pair : Pair P ow nt all o { c with op := .mkslice z b zs l l' }
  comp : ∃ b0, compOp P b0 o.op = some (.mkslice z b zs l l')

theorem compOp_mk {op : Op} {ow z b : Nat} {zs : List PV} {l l' : Opd} (hc : compOp P ow op = some (.mkslice z b zs l l')) : ∃ t l0 c0, op = .makeSlice t l0 c0 := by
  cases op <;> first
    | exact ⟨_, _, _, rfl⟩
    | (exfalso; simp only [compOp, compCall, reduceCtorEq] at hc; done)
    | (exfalso; simp only [compOp, compCall, Option.map_eq_some_iff, reduceCtorEq, and_false, exists_false] at hc; done)
    | (exfalso
       simp only [compOp, compCall] at hc
       (repeat' split at hc) <;> first
         | (cases hc; done)
         | (simp [Option.map_eq_some_iff] at hc; done)
         | (simp only [Option.map_eq_some_iff, Option.bind_eq_some_iff, Function.comp_def, reduceCtorEq, and_false, exists_false] at hc; done)
         | contradiction
         | (simp [Option.bind_eq_some_iff] at hc; done)
         | (simp only [compBin] at hc
            (repeat' split at hc) <;> first
              | (cases hc; done)
              | (simp [Option.map_eq_some_iff] at hc; done)
              | (simp [Option.bind_eq_some_iff] at hc; done)
              | contradiction))

theorem compOp_noR {op : Op} {ow k z b : Nat} {zs : List PV} {l l' : Opd} (hc : compOp P ow op = some (.mksliceR k z b zs l l')) : False := by
  cases op <;> first
    | (simp only [compOp, compCall, reduceCtorEq] at hc; done)
    | (simp only [compOp, compCall, Option.map_eq_some_iff, reduceCtorEq, and_false, exists_false] at hc; done)
    | (simp only [compOp, compCall] at hc
       (repeat' split at hc) <;> first
         | (cases hc; done)
         | (simp [Option.map_eq_some_iff] at hc; done)
         | (simp only [Option.map_eq_some_iff, Option.bind_eq_some_iff, Function.comp_def, reduceCtorEq, and_false, exists_false] at hc; done)
         | contradiction
         | (simp [Option.bind_eq_some_iff] at hc; done)
         | (simp only [compBin] at hc
            (repeat' split at hc) <;> first
              | (cases hc; done)
              | (simp [Option.map_eq_some_iff] at hc; done)
              | (simp [Option.bind_eq_some_iff] at hc; done)
              | contradiction))

/-- One such step of a region. -/
theorem wp_stepR {ow : Nat → Nat} {all : Array Oper} {i : Nat} {o : Oper} {c : COper} {K : Act → World → Prop} {Q : Exit → Act → World → Prop} {n0 k z b : Nat} {zs : List PV} {l l' : Opd} (hp : PairR P ow nt all o c k z b zs l l') (hi : all[i]? = some o) (hf : FR ρ I w nt a s) (hs : SR ρ I h w)
    (hn0 : n0 ≤ h.nx - 1 - k) (hρ : ρ (h.nx - 1 - k) = none)
    (ev : evStep call c s h = some (s', h')) (hK : ∀ a' w' ρ', h'.nx = h.nx → St ρ I ⟨n0, h.lo, h.blk⟩ w ρ' I h' w' → SR ρ' I h' w' → FR ρ' I w' nt a' s' → (∀ j, j ≠ h.nx - 1 - k → ρ' j = ρ j) → K a' w') : wpOp P all Q i K a w := by
  unfold wpOp
  simp only [hi]
  have hwn := wanted_eq hp.pair hf
  simp only at hwn
  rw [hwn]
  obtain ⟨v, rfl, e⟩ := evStep_inv ev
  have hdst : c.dst = o.dst := hp.pair.dst
  have hdl : ∀ t, c.dst = some t → t < nt := by rw [hdst]; exact hp.pair.dlt
  have hst0 : n0 ≤ h.nx := by omega
  rcases e with ⟨e1, e2⟩ | ⟨e1, rfl, rfl⟩
  · rw [if_pos e1]
    left
    have e3 := (evOpB_inv e2).2
    rw [hp.op] at e3
    obtain ⟨L, C, g1, g2, ⟨g3, g4, g5, g6⟩, rfl, rfl⟩ := mkR_inv e3
    obtain ⟨b0, hcomp⟩ := hp.comp
    have hb0 : h.blk (h.nx - 1 - k) = none := by simpa using g6
    obtain ⟨t, l0, c0, ho⟩ := compOp_mk hcomp
    · rw [ho] at hcomp
      simp only [compOp] at hcomp
      split at hcomp
      · rename_i e hu
        split at hcomp
        · rename_i z' b' zs' X Y hz hb hzc hX hY
          split at hcomp
          · rename_i hcond
            by_cases how : b0 = 1
            · rw [if_pos how] at hcomp; cases hcomp
            rw [if_neg how] at hcomp
            cases hcomp
            have hl := opd_vr hX hf
            have hc' := opd_vr hY hf
            rw [g1] at hl
            rw [g2] at hc'
            obtain ⟨r, w', ρ', r1, r2, r3, r4, r5⟩ := mksliceR_ok (P := P) hs hn0 (by omega) hb0 hρ hu hz hb hzc hcond g3
            unfold Oper.wp
            simp only [execOp, ho]
            rw [hl.int_inv, hc'.int_inv]
            have hrun : (execOp a.eval o).run P w = .ok (.value r) w' := by
              simp only [execOp, ho]
              rw [hl.int_inv, hc'.int_inv]
              simp [r1]
            simp only [execOp, ho] at hrun
            rw [hl.int_inv, hc'.int_inv] at hrun
            rw [hrun]
            refine hK _ w' ρ' rfl r2 r3 ?_ r5
            rw [← hdst]
            exact (⟨hf.size, hf.defers, fun t => (hf.slot t).step' hs r2⟩ : FR ρ' I w' nt a s).put hdl r4
          · cases hcomp
        · cases hcomp
      · cases hcomp
  · rw [if_neg (by simp [e1])]
    refine hK _ w ρ rfl ⟨fun _ _ e => e, fun _ e => e, fun _ e => .inl e, rfl, rfl, rfl, Nat.le_refl _, fun _ _ _ => rfl, fun _ C _ _ e => ⟨C, e, rfl⟩, fun i b o hl e => .inr ⟨i, o, hl, e⟩, hst0, fun i x e => .inl e⟩ hs ?_ fun _ _ => rfl
    rw [← hdst]
    exact hf.put hdl VR.undef

theorem wpOps_seq {ow : Nat → Nat} {all : Array Oper} {cops : List COper} {Q : Exit → Act → World → Prop} (hcl : cops.length = all.size) (hpair : ∀ (i : Nat) o c, all[i]? = some o → cops[i]? = some c → Pair P ow nt all o c) (hco : CallOk P call) :
    ∀ (l : List Nat) (a : Act) (w : World) (ρ : Nat → Option (Nat × Nat)) (I : Nat → Prop) (s : Fr) (h : AH), FR ρ I w nt a s → SR ρ I h w → evSeq call cops l s h = some (s', h') →
      (∀ a' w' ρ' I', St ρ I h w ρ' I' h' w' → SR ρ' I' h' w' → FR ρ' I' w' nt a' s' → Q .normal a' w') → wpOps P all Q l a w
  | [], a, w, ρ, I, s, h, hf, hs, e, hQ => by cases e; exact hQ a w ρ I .refl hs hf
  | i :: l, a, w, ρ, I, s, h, hf, hs, e, hQ => by
    rw [wpOps_cons]
    simp only [evSeq] at e
    cases hc : cops[i]? with
    | none => simp [hc] at e
    | some c =>
      simp only [hc] at e
      cases hst : evStep call c s h with
      | none => simp [hst] at e
      | some p =>
        obtain ⟨s1, h1⟩ := p
        simp only [hst] at e
        have hlt : i < all.size := by
          rw [← hcl]
          rcases Nat.lt_or_ge i cops.length with q | q
          · exact q
          · rw [List.getElem?_eq_none q] at hc; cases hc
        have hi : all[i]? = some all[i] := Array.getElem?_eq_getElem hlt
        refine wp_step (hpair i _ _ hi hc) hi hf hs hst hco fun a' w' ρ' I' st hs' hf' => ?_
        exact wpOps_seq hcl hpair hco l a' w' ρ' I' s1 h1 hf' hs' e fun a2 w2 ρ2 I2 st2 hs2 hf2 => hQ a2 w2 ρ2 I2 (st.trans st2) hs2 hf2
end
end Go.Ev

/- Regions that draw their order. -/
set_option linter.unusedVariables false
set_option linter.unusedSimpArgs false
namespace Go.Ev
section
variable {P : Program} {call : Nat → List PV → AH → Option (PV × AH)} {pu : Nat → Bool} {ρ : Nat → Option (Nat × Nat)} {I : Nat → Prop} {h h' : AH} {w : World} {nt : Nat} {a : Act} {s s' : Fr} {v : PV}

def isL (listed : Array Bool) (i : Nat) : Bool := listed.getD i false

theorem isL_set {listed : Array Bool} {i j : Nat} (hi : i < listed.size) : isL (listed.setIfInBounds i true) j = (isL listed j || j == i) := by
  unfold isL
  simp only [Array.getD_eq_getD_getElem?]
  by_cases q : i = j
  · subst q; simp [hi]
  · rw [Array.getElem?_setIfInBounds_ne q]
    have : (j == i) = false := by simp; exact fun e => q e.symm
    rw [this, Bool.or_false]

/-- What is not listed yet, in the order of the text. -/
def remOf (n : Nat) (listed : Array Bool) : List Nat := (List.range n).filter fun i => !isL listed i

theorem ready_mem {all : Array Oper} {listed : Array Bool} (hsz : listed.size = all.size) {i : Nat} :
    i ∈ Region.ready .any all listed ↔ i < all.size ∧ isL listed i = false ∧ ∀ o, all[i]? = some o → ∀ e ∈ edges o, isL listed e = true := by
  unfold Region.ready
  simp only [List.mem_filter, List.mem_range, Bool.and_eq_true, Bool.not_eq_true']
  constructor
  · rintro ⟨h1, h2, h3⟩
    have hi : all[i]? = some all[i] := Array.getElem?_eq_getElem h1
    refine ⟨h1, ?_, fun o ho e he => ?_⟩
    · unfold isL
      have : i < listed.size := by omega
      simp [Array.getD, this] at h2 ⊢
      exact h2
    · rw [ho] at h3
      simp only [Option.map_some, Option.getD_some, Array.all_eq_true_iff_forall_mem] at h3
      simp only [edges, List.mem_map, List.mem_filter] at he
      obtain ⟨x, ⟨hx, hb⟩, rfl⟩ := he
      have := h3 x (by simpa using hx)
      simpa [hb, isL] using this
  · rintro ⟨h1, h2, h3⟩
    have hi : all[i]? = some all[i] := Array.getElem?_eq_getElem h1
    refine ⟨h1, ?_, ?_⟩
    · unfold isL at h2
      have : i < listed.size := by omega
      simp [Array.getD, this] at h2 ⊢
      exact h2
    · rw [hi]
      simp only [Option.map_some, Option.getD_some, Array.all_eq_true_iff_forall_mem]
      intro x hx
      by_cases hb : Region.binds .any x = true
      · have := h3 _ hi x.on (by simp only [edges, List.mem_map, List.mem_filter]; exact ⟨x, ⟨by simpa using hx, hb⟩, rfl⟩)
        simp [isL] at this
        simp [this]
      · simp [hb]

theorem range_cut {n i : Nat} (hi : i < n) : List.range n = List.range i ++ i :: List.range' (i + 1) (n - i - 1) := by
  rw [List.range_eq_range', List.range_eq_range']
  have e : n = i + (n - i) := by omega
  have e2 : n - i = (n - i - 1) + 1 := by omega
  conv => lhs; rw [e]
  rw [← List.range'_append_1, Nat.zero_add]
  conv => lhs; rw [e2]
  rw [List.range'_succ]

/-- A region that draws its order, by what holds at each step ('Iv'). -/
theorem wpAny_gen {all : Array Oper} {cops : List COper} {Q : Exit → Act → World → Prop} (Iv : Array Bool → Act → World → Fr → AH → Prop) (hcl : cops.length = all.size) (hp : PureOk pu call) (hwf : WfOk call)
    (hwfh : ∀ listed a w s h, Iv listed a w s h → WFH h)
    (hstep : ∀ (listed : Array Bool) i o c a w s h s1 h1 (K : Act → World → Prop), listed.size = all.size → i < all.size → isL listed i = false → all[i]? = some o → cops[i]? = some c → Iv listed a w s h → evStep call c s h = some (s1, h1) → (∀ e ∈ edges o, isL listed e = true) → (∀ a' w', Iv (listed.setIfInBounds i true) a' w' s1 h1 → K a' w') → wpOp P all Q i K a w)
    (hd : drawOk pu all.toList cops = true) :
    ∀ (fuel : Nat) (listed : Array Bool) (a : Act) (w : World) (s : Fr) (h : AH), listed.size = all.size → (remOf all.size listed).length ≤ fuel →
      (∀ i o, isL listed i = true → all[i]? = some o → ∀ e ∈ edges o, isL listed e = true) → Iv listed a w s h → evSeq call cops (remOf all.size listed) s h = some (s', h') →
      (∀ listed a' w', listed.size = all.size → remOf all.size listed = [] → Iv listed a' w' s' h' → Q .normal a' w') → wpAny P .any all Q fuel listed a w := by
  have hB := befs_spec (all.toList.map edges) []
  simp only [List.length_nil, Nat.zero_le, Nat.zero_add, forall_const, Nat.sub_zero, true_and, Nat.not_lt_zero, false_implies, implies_true, List.length_map, Array.length_toList] at hB
  have hdr : ∀ i, i < all.size → (∀ e ∈ (all.toList.map edges).getD i [], e < i) ∧ ∀ j, j < i → ((befs [] (all.toList.map edges)).getD i []).contains j = true ∨ ∃ x y, cops[j]? = some x ∧ cops[i]? = some y ∧ apartC pu x y = true := by
    intro i hi
    unfold drawOk at hd
    simp only [List.all_eq_true, List.mem_range, Bool.and_eq_true, decide_eq_true_eq, Bool.or_eq_true] at hd
    obtain ⟨d1, d2⟩ := hd i (by omega)
    refine ⟨d1, fun j hj => ?_⟩
    rcases d2 j hj with q | q
    · exact .inl q
    · right
      split at q
      · rename_i x y hx hy; exact ⟨x, y, hx, hy, q⟩
      · cases q
  have hedge : ∀ i o, all[i]? = some o → (all.toList.map edges).getD i [] = edges o := by
    intro i o ho
    have : all.toList[i]? = some o := by simpa using ho
    simp [List.getD_eq_getElem?_getD, this]
  intro fuel
  have emptyReady : ∀ (listed : Array Bool), listed.size = all.size → Region.ready .any all listed = [] → remOf all.size listed = [] := by
    intro listed hsz hr
    rcases hrem : remOf all.size listed with _ | ⟨i, l⟩
    · rfl
    · exfalso
      have hmem : i ∈ remOf all.size listed := by rw [hrem]; simp
      simp only [remOf, List.mem_filter, List.mem_range, Bool.not_eq_true'] at hmem
      have hmin : ∀ j, j < i → isL listed j = true := by
        intro j hj
        cases hq : isL listed j with
        | true => rfl
        | false =>
          exfalso
          have hjm : j ∈ remOf all.size listed := by simp [remOf, hq]; omega
          have hpw : (remOf all.size listed).Pairwise (· < ·) := (List.pairwise_lt_range).filter _
          rw [hrem] at hjm hpw
          rw [List.pairwise_cons] at hpw
          rcases List.mem_cons.1 hjm with q | q
          · omega
          · have := hpw.1 j q; omega
      have : i ∈ Region.ready .any all listed := (ready_mem hsz).2 ⟨hmem.1, hmem.2, fun o ho e he => hmin e ((hdr i hmem.1).1 e (by rw [hedge i o ho]; exact he))⟩
      rw [hr] at this
      cases this
  induction fuel with
  | zero =>
    intro listed a w s h hsz hlen hcl' hiv e hQ
    have hrem : remOf all.size listed = [] := List.eq_nil_of_length_eq_zero (by omega)
    refine ⟨?_, ?_⟩
    · cases hr : Region.ready .any all listed with
      | nil => rfl
      | cons i l =>
        have hi : i ∈ Region.ready .any all listed := by rw [hr]; simp
        obtain ⟨h1, h2, _⟩ := (ready_mem hsz).1 hi
        have : i ∈ remOf all.size listed := by simp [remOf, h1, h2]
        rw [hrem] at this
        cases this
    · rw [hrem] at e
      cases e
      exact hQ _ a w hsz hrem hiv
  | succ fuel ih =>
    intro listed a w s h hsz hlen hcl' hiv e hQ
    refine ⟨fun hr => ?_, fun i hi => ?_⟩
    · rw [emptyReady listed hsz hr] at e
      cases e
      exact hQ _ a w hsz (emptyReady listed hsz hr) hiv
    · obtain ⟨h1, h2, h3⟩ := (ready_mem hsz).1 hi
      have hio : all[i]? = some all[i] := Array.getElem?_eq_getElem h1
      have hic : cops[i]? = some (cops[i]'(by omega)) := List.getElem?_eq_getElem (by omega)
      generalize hoi : all[i] = o at hio
      generalize hci : cops[i]'(by omega) = c at hic
      -- what i waits for is listed
      have hbl : ∀ k, k < all.size → (∀ e ∈ (all.toList.map edges).getD k [], isL listed e = true) → ∀ j ∈ (befs [] (all.toList.map edges)).getD k [], isL listed j = true := by
        intro k
        induction k using Nat.strongRecOn with
        | _ k ihk =>
          intro hk he j hj
          rcases hB k hk j hj with q | ⟨e, q1, q2, q3⟩
          · exact he j q
          · have hel := he e q1
            have hek : e < all.size := by omega
            have heo : all[e]? = some all[e] := Array.getElem?_eq_getElem hek
            exact ihk e q2 hek (fun x hx => hcl' e _ hel heo x (by rw [hedge e _ heo] at hx; exact hx)) j q3
      have hsplit : remOf all.size listed = ((List.range i).filter fun j => !isL listed j) ++ i :: ((List.range' (i + 1) (all.size - i - 1)).filter fun j => !isL listed j) := by
        unfold remOf
        rw [range_cut h1, List.filter_append, List.filter_cons]
        simp [h2]
      have hsplit' : remOf all.size (listed.setIfInBounds i true) = ((List.range i).filter fun j => !isL listed j) ++ ((List.range' (i + 1) (all.size - i - 1)).filter fun j => !isL listed j) := by
        unfold remOf
        rw [range_cut h1, List.filter_append, List.filter_cons]
        have hset : ∀ j, isL (listed.setIfInBounds i true) j = (isL listed j || j == i) := fun j => isL_set (by omega)
        rw [if_neg (by simp [hset])]
        congr 1
        · apply List.filter_congr
          intro j hj
          have : j < i := by simpa using hj
          rw [hset]
          simp [show ¬ j = i by omega]
        · apply List.filter_congr
          intro j hj
          have : i + 1 ≤ j := (List.mem_range'_1.1 hj).1
          rw [hset]
          simp [show ¬ j = i by omega]
      rw [hsplit] at e
      have hmv := move_front (i := i) (oi := c) hp hwf hic _ _ s h (s', h') (hwfh _ _ _ _ _ hiv) (by
        intro j hj
        simp only [List.mem_filter, List.mem_range, Bool.not_eq_true'] at hj
        rcases (hdr i h1).2 j hj.1 with q | ⟨x, y, hx, hy, q⟩
        · exfalso
          have := hbl i h1 (fun e he => h3 o hio e (by rw [hedge i o hio] at he; exact he)) j (by simpa using q)
          rw [hj.2] at this
          cases this
        · rw [hic] at hy
          cases hy
          exact ⟨x, hx, q⟩) e
      simp only [evSeq, hic] at hmv
      cases hst : evStep call c s h with
      | none => simp [hst] at hmv
      | some p =>
        obtain ⟨s1, hh1⟩ := p
        simp only [hst] at hmv
        refine hstep listed i o c a w s h s1 hh1 _ hsz h1 h2 hio hic hiv hst (h3 o hio) fun a' w' hiv' => ?_
        refine ih (listed.setIfInBounds i true) a' w' s1 hh1 (by simpa using hsz) ?_ ?_ hiv' (by rw [hsplit']; exact hmv) hQ
        · rw [hsplit']
          rw [hsplit] at hlen
          simp only [List.length_append, List.length_cons] at hlen ⊢
          omega
        · intro k o' hk ho' ee he
          rw [isL_set (by omega)] at hk ⊢
          simp only [Bool.or_eq_true, beq_iff_eq] at hk ⊢
          rcases hk with hk | rfl
          · exact .inl (hcl' k o' hk ho' ee he)
          · exact .inl (h3 o' ho' ee he)

theorem SR.wfh (hs : SR ρ I h w) : WFH h := by
  intro k hk
  cases hb : h.blk k with
  | none => rfl
  | some B => have := hs.blkNx (i := k) (by rw [hb]; simp); omega

theorem wpAny_seq {ow : Nat → Nat} {all : Array Oper} {cops : List COper} {Q : Exit → Act → World → Prop} (hcl : cops.length = all.size) (hpair : ∀ (i : Nat) o c, all[i]? = some o → cops[i]? = some c → Pair P ow nt all o c) (hco : CallOk P call) (hp : PureOk pu call) (hwf : WfOk call)
    (hd : drawOk pu all.toList cops = true) (fuel : Nat) (listed : Array Bool) (a : Act) (w : World) (ρ : Nat → Option (Nat × Nat)) (I : Nat → Prop) (s : Fr) (h : AH) (hsz : listed.size = all.size) (hlen : (remOf all.size listed).length ≤ fuel)
    (hc : ∀ i o, isL listed i = true → all[i]? = some o → ∀ e ∈ edges o, isL listed e = true) (hf : FR ρ I w nt a s) (hs : SR ρ I h w) (e : evSeq call cops (remOf all.size listed) s h = some (s', h'))
    (hQ : ∀ a' w' ρ' I', St ρ I h w ρ' I' h' w' → SR ρ' I' h' w' → FR ρ' I' w' nt a' s' → Q .normal a' w') : wpAny P .any all Q fuel listed a w :=
  wpAny_gen (fun _ a' w' s1 h1 => ∃ ρ' I', St ρ I h w ρ' I' h1 w' ∧ SR ρ' I' h1 w' ∧ FR ρ' I' w' nt a' s1) hcl hp hwf (fun _ _ _ _ _ ⟨_, _, _, hs, _⟩ => hs.wfh)
    (fun listed i o c a w s h s1 h1 K _ _ _ hi hic ⟨ρ1, I1, st, hs, hf⟩ hst _ hK => wp_step (hpair i o c hi hic) hi hf hs hst hco fun a' w' ρ' I' st' hs' hf' => hK a' w' ⟨ρ', I', st.trans st', hs', hf'⟩)
    hd fuel listed a w s h hsz hlen hc ⟨ρ, I, .refl, hs, hf⟩ e (fun _ a' w' _ _ ⟨ρ', I', st, hs', hf'⟩ => hQ a' w' ρ' I' st hs' hf')

/-- A region that draws its order and makes slices whose blocks were set aside. -/
theorem wpAny_res {ow : Nat → Nat} {all : Array Oper} {cops : List COper} {Q : Exit → Act → World → Prop} {m n0 : Nat} (hcl : cops.length = all.size)
    (hpair : ∀ (i : Nat) o c, all[i]? = some o → cops[i]? = some c → (resK c.op = none ∧ Pair P ow nt all o c ∧ (cls pu c.op = 0 ∨ cls pu c.op = 1)) ∨ ∃ k z b zs l l', k < m ∧ PairR P ow nt all o c k z b zs l l')
    (hnd : ∀ (i j : Nat) (ci cj : COper) (k : Nat), cops[i]? = some ci → cops[j]? = some cj → resK ci.op = some k → resK cj.op = some k → i = j)
    (hco : CallOk P call) (hp : PureOk pu call) (hwf : WfOk call) (hd : drawOk pu all.toList cops = true) (fuel : Nat) (listed : Array Bool) (a : Act) (w : World) (ρ : Nat → Option (Nat × Nat)) (I : Nat → Prop) (s : Fr) (h : AH) (hsz : listed.size = all.size) (hlen : (remOf all.size listed).length ≤ fuel)
    (hc : ∀ i o, isL listed i = true → all[i]? = some o → ∀ e ∈ edges o, isL listed e = true) (hf : FR ρ I w nt a s) (hs0 : SR ρ I h w) (hn : h.nx = n0) (e : evSeq call cops (remOf all.size listed) s ⟨n0 + m, h.lo, h.blk⟩ = some (s', h'))
    (hQ : ∀ a' w' ρ' I', St ρ I h w ρ' I' h' w' → SR ρ' I' h' w' → FR ρ' I' w' nt a' s' → Q .normal a' w') : wpAny P .any all Q fuel listed a w := by
  have stw : ∀ {ρ' : Nat → Option (Nat × Nat)} {I' : Nat → Prop} {h1 : AH} {w' : World}, St ρ I h w ρ' I' h1 w' → St ρ I h w ρ' I' ⟨n0, h1.lo, h1.blk⟩ w' := fun st =>
    ⟨st.ext, st.imm, st.immNew, st.os, st.tape, st.output, st.size, st.keep, st.row, st.own, by show h.nx ≤ n0; omega, st.low⟩
  refine wpAny_gen (fun listed a' w' s1 h1 => h1.nx = n0 + m ∧ (∀ i c k, isL listed i = false → cops[i]? = some c → resK c.op = some k → ∃ ρ', True) ∧ ∃ ρ' I', St ρ I h w ρ' I' h1 w' ∧ SR ρ' I' h1 w' ∧ FR ρ' I' w' nt a' s1 ∧ ∀ i c k, isL listed i = false → cops[i]? = some c → resK c.op = some k → ρ' (n0 + m - 1 - k) = none) hcl hp hwf (fun _ _ _ _ _ ⟨_, _, _, _, _, hs, _⟩ => hs.wfh)
    ?_ hd fuel listed a w s ⟨n0 + m, h.lo, h.blk⟩ hsz hlen hc ⟨rfl, fun _ _ _ _ _ _ => ⟨ρ, trivial⟩, ρ, I, ?_, ?_, hf, ?_⟩ e (fun _ a' w' _ _ ⟨_, _, ρ', I', st, hs', hf', _⟩ => hQ a' w' ρ' I' st hs' hf')
  · rintro listed i o c a w1 s h1 s2 h2 K hsz' hia hil hi hic ⟨hnx, _, ρ1, I1, st, hs, hf, hfree⟩ hst _ hK
    have hiL : i < listed.size := by omega
    rcases hpair i o c hi hic with ⟨hr, hpr, hcls⟩ | ⟨k, z, b, zs, l, l', hkm, hpr⟩
    · have hh : h2 = h1 := by
        obtain ⟨v, _, q⟩ := evStep_inv hst
        obtain ⟨q0, q1, _⟩ := step_heap hp hs.wfh q
        rcases hcls with hcls | hcls
        · exact (q0 hcls).1
        · exact (q1 hcls).1
      refine wp_step hpr hi hf hs hst hco fun a' w' ρ' I' st' hs' hf' => hK a' w' ⟨by rw [hh]; exact hnx, fun _ _ _ _ _ _ => ⟨ρ', trivial⟩, ρ', I', st.trans st', hs', hf', fun j cj k hj hcj hk => ?_⟩
      have hj' : isL listed j = false := by
        rw [isL_set hiL] at hj
        simp only [Bool.or_eq_false_iff] at hj
        exact hj.1
      have hkm : k < m := by
        have hja : j < all.size := by
          rcases Nat.lt_or_ge j cops.length with q | q
          · omega
          · rw [List.getElem?_eq_none q] at hcj; cases hcj
        rcases hpair j _ cj (Array.getElem?_eq_getElem hja) hcj with ⟨hr', _⟩ | ⟨k', z, b, zs, l, l', hkm', hpr'⟩
        · rw [hr'] at hk; cases hk
        · rw [hpr'.op] at hk; cases hk; exact hkm'
      cases hq : ρ' (n0 + m - 1 - k) with
      | none => rfl
      | some x =>
        rcases st'.low _ _ hq with g | g
        · rw [hfree j cj k hj' hcj hk] at g; cases g
        · omega
    · have hrk : resK c.op = some k := by rw [hpr.op]; rfl
      refine wp_stepR (n0 := n0) hpr hi hf hs (by omega) (by rw [hnx]; exact hfree i c k hil hic hrk) hst fun a' w' ρ' hnx' st' hs' hf' hsame => hK a' w' ⟨by omega, fun _ _ _ _ _ _ => ⟨ρ', trivial⟩, ρ', I1, (stw st).trans st', hs', hf', fun j cj k' hj hcj hk => ?_⟩
      rw [isL_set hiL] at hj
      simp only [Bool.or_eq_false_iff, beq_eq_false_iff_ne, ne_eq] at hj
      have hkm' : k' < m := by
        have hja : j < all.size := by
          rcases Nat.lt_or_ge j cops.length with q | q
          · omega
          · rw [List.getElem?_eq_none q] at hcj; cases hcj
        rcases hpair j _ cj (Array.getElem?_eq_getElem hja) hcj with ⟨hr', _⟩ | ⟨k'', z, b, zs, l, l', hkm', hpr'⟩
        · rw [hr'] at hk; cases hk
        · rw [hpr'.op] at hk; cases hk; exact hkm'
      have hne : k' ≠ k := fun q => hj.2 (hnd j i cj c k hcj hic (q ▸ hk) hrk)
      rw [hsame _ (by omega)]
      exact hfree j cj k' hj.1 hcj hk
  · exact ⟨fun _ _ e => e, fun _ e => e, fun _ e => .inl e, rfl, rfl, rfl, Nat.le_refl _, fun _ _ _ => rfl, fun _ C _ _ e => ⟨C, e, rfl⟩, fun i b o hl e => .inr ⟨i, o, hl, e⟩, by show h.nx ≤ n0 + m; omega, fun i x e => .inl e⟩
  · exact ⟨hs0.live, hs0.inj, hs0.apart, fun i x e => by have := hs0.nx i x e; show i < n0 + m; omega, hs0.inI⟩
  · intro i c k _ hic hk
    have hkm : k < m := by
      have hja : i < all.size := by
        rcases Nat.lt_or_ge i cops.length with q | q
        · omega
        · rw [List.getElem?_eq_none q] at hic; cases hic
      rcases hpair i _ c (Array.getElem?_eq_getElem hja) hic with ⟨hr', _⟩ | ⟨k'', z, b, zs, l, l', hkm', hpr'⟩
      · rw [hr'] at hk; cases hk
      · rw [hpr'.op] at hk; cases hk; exact hkm'
    cases hq : ρ (n0 + m - 1 - k) with
    | none => rfl
    | some x => have := hs0.nx _ _ hq; omega

theorem sepOp_cv {c0 c : COp} {ts : List Nat} (h : cv c0 c) : cv c0 (sepOp ts c) := by
  unfold sepOp
  split
  · rcases h with rfl | ⟨_, _, _, _, _, q⟩ | ⟨_, _, _, _, _, _, q⟩ | ⟨_, _, _, _, q⟩
    · exact .inr (.inl ⟨_, _, _, _, rfl, rfl⟩)
    all_goals cases q
  · rcases h with rfl | ⟨_, _, _, _, _, q⟩ | ⟨_, _, _, _, _, _, q⟩ | ⟨_, _, _, _, q⟩
    · exact .inr (.inr (.inl ⟨_, _, _, _, _, rfl, rfl⟩))
    all_goals cases q
  · exact h
theorem sepOp_bad {ts : List Nat} {c : COp} (h : c = .bad) : sepOp ts c = .bad := by rw [h]; rfl
theorem Pair.sep {ow : Nat → Nat} {all : Array Oper} {o : Oper} {c : COper} {ts : List Nat} (h : Pair P ow nt all o c) : Pair P ow nt all o { c with op := sepOp ts c.op } :=
  ⟨h.dst, h.op.imp (fun ⟨b, c0, h1, h2⟩ => ⟨b, c0, h1, sepOp_cv h2⟩) sepOp_bad, h.dlt, h.guard⟩
theorem loadiOp_cv {c0 c : COp} (h : cv c0 c) : cv c0 (loadiOp c) := by
  unfold loadiOp
  split
  · rcases h with rfl | ⟨_, _, _, _, _, q⟩ | ⟨_, _, _, _, _, _, q⟩ | ⟨_, _, _, _, q⟩
    · exact .inr (.inr (.inr ⟨_, _, _, rfl, rfl⟩))
    all_goals cases q
  · exact h
theorem loadiOp_bad {c : COp} (h : c = .bad) : loadiOp c = .bad := by rw [h]; rfl
theorem Pair.loadi {ow : Nat → Nat} {all : Array Oper} {o : Oper} {c : COper} (h : Pair P ow nt all o c) : Pair P ow nt all o { c with op := loadiOp c.op } :=
  ⟨h.dst, h.op.imp (fun ⟨b, c0, h1, h2⟩ => ⟨b, c0, h1, loadiOp_cv h2⟩) loadiOp_bad, h.dlt, h.guard⟩
theorem sepFrom_get {B : List (List Nat)} {all : List COper} : ∀ (l : List COper) (n : Nat), (sepFrom B all n l).length = l.length ∧ ∀ (i : Nat) (c : COper), (sepFrom B all n l)[i]? = some c → ∃ (c0 : COper) (ts : List Nat), l[i]? = some c0 ∧ c = { c0 with op := sepOp ts c0.op }
  | [], n => ⟨rfl, fun i c h => by simp [sepFrom] at h⟩
  | o :: r, n => by
    obtain ⟨h1, h2⟩ := sepFrom_get (B := B) (all := all) r (n + 1)
    refine ⟨by simp [sepFrom, h1], fun i c h => ?_⟩
    cases i with
    | zero => simp [sepFrom] at h; exact ⟨o, _, by simp, h.symm⟩
    | succ i =>
      simp only [sepFrom, List.getElem?_cons_succ] at h ⊢
      exact h2 i c h

theorem resCops_get : ∀ (l : List COper) (n : Nat), (resCops n l).length = l.length ∧ ∀ (i : Nat) (c : COper), (resCops n l)[i]? = some c → ∃ c0 : COper, l[i]? = some c0 ∧ (c = c0 ∨ (∃ g n a, c0.op = .load g n a ∧ c = { c0 with op := .loadi g n a }) ∨ ∃ k z b zs l l', c0.op = .mkslice z b zs l l' ∧ c = { c0 with op := .mksliceR k z b zs l l' })
  | [], n => ⟨rfl, fun i c h => by simp [resCops] at h⟩
  | o :: r, n => by
    unfold resCops
    split
    · rename_i z b zs l c hop
      obtain ⟨h1, h2⟩ := resCops_get r (n + 1)
      refine ⟨by simp [h1], fun i c h => ?_⟩
      cases i with
      | zero => simp at h; exact ⟨o, by simp, .inr (.inr ⟨_, _, _, _, _, _, hop, h.symm⟩)⟩
      | succ i => simp only [List.getElem?_cons_succ] at h ⊢; exact h2 i c h
    · rename_i g m a hop
      obtain ⟨h1, h2⟩ := resCops_get r n
      refine ⟨by simp [h1], fun i c h => ?_⟩
      cases i with
      | zero => simp at h; exact ⟨o, by simp, .inr (.inl ⟨_, _, _, hop, h.symm⟩)⟩
      | succ i => simp only [List.getElem?_cons_succ] at h ⊢; exact h2 i c h
    · obtain ⟨h1, h2⟩ := resCops_get r n
      refine ⟨by simp [h1], fun i c h => ?_⟩
      cases i with
      | zero => simp at h; exact ⟨o, by simp, .inl h.symm⟩
      | succ i => simp only [List.getElem?_cons_succ] at h ⊢; exact h2 i c h

theorem nodup_keys : ∀ {l : List COper}, (l.filterMap fun o => resK o.op).Nodup → ∀ (i j : Nat) (ci cj : COper) (k : Nat), l[i]? = some ci → l[j]? = some cj → resK ci.op = some k → resK cj.op = some k → i = j
  | [], _, i, j, ci, cj, k, h, _, _, _ => by simp at h
  | o :: r, hn, i, j, ci, cj, k, hi, hj, ki, kj => by
    have hmem : ∀ {n : Nat} {c : COper}, r[n]? = some c → resK c.op = some k → k ∈ r.filterMap fun o => resK o.op := fun h hk => List.mem_filterMap.2 ⟨_, List.mem_of_getElem? h, hk⟩
    have hr : (r.filterMap fun o => resK o.op).Nodup := by
      cases ho : resK o.op with
      | none => simpa [ho] using hn
      | some q => simp only [List.filterMap_cons, ho] at hn; exact (List.nodup_cons.1 hn).2
    cases i with
    | zero =>
      cases j with
      | zero => rfl
      | succ j =>
        simp at hi hj
        subst hi
        simp only [List.filterMap_cons, ki] at hn
        exact absurd (hmem hj kj) (List.nodup_cons.1 hn).1
    | succ i =>
      cases j with
      | zero =>
        simp at hi hj
        subst hj
        simp only [List.filterMap_cons, kj] at hn
        exact absurd (hmem hi ki) (List.nodup_cons.1 hn).1
      | succ j =>
        simp only [List.getElem?_cons_succ] at hi hj
        rw [nodup_keys hr i j ci cj k hi hj ki kj]
end
end Go.Ev

/- Code and calls: the abstract machine's evaluator is sound. -/
set_option linter.unusedVariables false
set_option linter.unusedSimpArgs false
namespace Go.Ev
section
variable {P : Program} {pu : Nat → Bool} {T : Nat → Option Fun} {ρ : Nat → Option (Nat × Nat)} {I : Nat → Prop} {h h' : AH} {w : World} {nt : Nat} {a : Act} {s s' : Fr} {u : Value} {v : PV}

def EX.to : EX → Exit
  | .nrm => .normal
  | .exit i => .exit i
  | .ret => .ret

/-- What lies below the bar is kept. -/
def KL (h h' : AH) : Prop := h'.lo = h.lo ∧ h.nx ≤ h'.nx ∧ (h.lo ≤ h.nx → ∀ i, i < h.lo → h'.blk i = h.blk i)

/-- What is asked of a library function's contract. -/
structure PrimOk (P : Program) (p : Bool) (f : Nat) (g : List PV → AH → Option (PV × AH)) : Prop where
  callable : Callable P (rl f)
  calls : ∀ as h r h', g as h = some (r, h') → ∀ ρ I w us, SR ρ I h w → VRL ρ I w us as → Calls P (rl f) us w (Post ρ I h w r h')
  wf : ∀ as h r h', WFH h → g as h = some (r, h') → WFH h'
  kl : ∀ as h r h', g as h = some (r, h') → KL h h'
  pure : p = true → ∀ as h r h', g as h = some (r, h') → h' = h ∧ ∀ h2, h.le h2 → g as h2 = some (r, h2)

structure TOk (P : Program) (pu : Nat → Bool) (T : Nat → Option Fun) : Prop where
  code : ∀ f c, T f = some (.code c) → ∃ ow, compFn P pu ow f = some c
  prim : ∀ f p g, T f = some (.prim p g) → PrimOk P p f g ∧ (pu f = true → p = true) ∧ (pu (f + exb) = true → ∀ as h r h', (∀ i, h.nx ≤ i → h.blk i = none) → g as h = some (r, h') → h.le h')

theorem compFn_inv {ow : Nat → Nat → Nat} {f : Nat} {c : CFun} (e : compFn P pu ow f = some c) :
    ∃ fn code, P.funcs[rl f]? = some fn ∧ fn.body = some code ∧ (fn.name == "runtime.NumGoroutine") = false ∧ resTmps P fn.results.toList = some c.res ∧ c.body = compCode P pu (ow f) fn.ntmps code ∧ c.pure = pu f ∧ c.ext = pu (f + exb) := by
  unfold compFn at e
  split at e
  · rename_i fn hfn
    split at e
    · rename_i code r hb hr
      split at e
      · cases e
      · rename_i hn
        cases e
        exact ⟨fn, code, hfn, hb, by simpa using hn, hr, rfl, rfl, rfl⟩
    · cases e
  · cases e

theorem rounds_seq {c : Code} {cc : CCode} {Q : Exit → Act → World → Prop} {n : Nat} {e : EX}
    (hbody : ∀ m, m < n → ∀ s h e s' h', evC T m cc s h = some (e, s', h') → ∀ a w ρ I (Q : Exit → Act → World → Prop), FR ρ I w nt a s → SR ρ I h w →
      (∀ a' w' ρ' I', St ρ I h w ρ' I' h' w' → SR ρ' I' h' w' → FR ρ' I' w' nt a' s' → Q e.to a' w') → c.wp P Q a w) :
    ∀ m, m ≤ n → ∀ s h, evC T m (.loop cc) s h = some (e, s', h') → ∀ a w ρ I, FR ρ I w nt a s → SR ρ I h w →
      (∀ a' w' ρ' I', St ρ I h w ρ' I' h' w' → SR ρ' I' h' w' → FR ρ' I' w' nt a' s' → Q e.to a' w') → Code.rounds P c Q m a w := by
  intro m
  induction m with
  | zero => intro _ s h ev; cases ev
  | succ m ih =>
    intro hm s h ev a w ρ I hf hs hQ
    rw [rounds_succ]
    simp only [evC] at ev
    cases hb : evC T m cc s h with
    | none => simp [hb] at ev
    | some p =>
      obtain ⟨e1, s1, h1⟩ := p
      rw [hb] at ev
      refine hbody m (by omega) s h e1 s1 h1 hb a w ρ I _ hf hs fun a' w' ρ' I' st hs' hf' => ?_
      cases e1 with
      | nrm =>
        simp only at ev
        exact ih (by omega) s1 h1 ev a' w' ρ' I' hf' hs' fun a2 w2 ρ2 I2 st2 hs2 hf2 => hQ a2 w2 ρ2 I2 (st.trans st2) hs2 hf2
      | exit i => cases ev; exact hQ a' w' ρ' I' st hs' hf'
      | ret => cases ev; exact hQ a' w' ρ' I' st hs' hf'

section
variable {call : Nat → List PV → AH → Option (PV × AH)} {ρ : Nat → Option (Nat × Nat)} {I : Nat → Prop} {h h' : AH} {w : World} {nt : Nat} {a : Act} {s s' : Fr} {u : Value} {v : PV}
/-- A real block that nothing stands for yet is given a number. -/
theorem SR.adopt (hs : SR ρ I h w) {b0 : Nat} {Z : Array Value} {T : TypeId} {zs : List PV} (hb : w.heap[b0]? = some (.cells Z T (0, 0))) (hl : zs.length ≤ Z.size) (hI : ¬ I b0)
    (hv : ∀ j (hj : j < zs.length), VR ρ I w (Z.getD j undef) zs[j]) (ho : ∀ x ∈ zs, x.one = true) (hρ : ∀ i o, h.blk i ≠ none → ρ i ≠ some (b0, o)) :
    SR (upd ρ h.nx (b0, 0)) I (h.push (.cells zs)) w := by
  have hlt : ∀ i, h.blk i ≠ none → i ≠ h.nx := fun i hl e => Nat.lt_irrefl _ (e ▸ hs.blkNx hl)
  have hext : ∀ i x, ρ i = some x → upd ρ h.nx (b0, 0) i = some x := fun i x e => by
    have : i ≠ h.nx := fun e' => by rw [e', hs.nxNone] at e; cases e
    simp [upd, this, e]
  have hmono : ∀ {u v}, VR ρ I w u v → VR (upd ρ h.nx (b0, 0)) I w u v := fun hv => hv.mono hext (fun _ e => e) (fun _ _ => rfl) (fun b C T f e => ⟨C, e, rfl⟩)
  refine ⟨fun i B e => ?_, fun i j b o o' hi hj e1 e2 => ?_, fun i b o hi e => ?_, fun i x e => ?_, hs.inI⟩
  · by_cases hi : i = h.nx
    · subst hi
      rw [AH.push_blk, if_pos rfl] at e
      cases e
      exact ⟨b0, 0, by simp [upd], Z, T, hb, by omega, fun j hj => by rw [Nat.zero_add]; exact hmono (hv j hj), ho⟩
    · rw [AH.push_blk, if_neg hi] at e
      obtain ⟨b, o, g1, g2⟩ := hs.live i B e
      refine ⟨b, o, hext _ _ g1, ?_⟩
      cases B with
      | cells cs =>
        obtain ⟨C, T, q1, q2, q3, q4⟩ := g2
        exact ⟨C, T, q1, q2, fun j hj => hmono (q3 j hj), q4⟩
      | map es =>
        obtain ⟨M, k, q1, q2, q3⟩ := g2
        exact ⟨M, k, q1, q2, fun j hj hj' => ⟨hmono (q3 j hj hj').1, hmono (q3 j hj hj').2⟩⟩
  · rw [AH.push_blk] at hi hj
    by_cases h1 : i = h.nx <;> by_cases h2 : j = h.nx
    · omega
    · rw [if_neg h2] at hj
      simp [upd, h1] at e1
      simp [upd, h2] at e2
      exact absurd (e1.1 ▸ e2) (hρ j o' hj)
    · rw [if_neg h1] at hi
      simp [upd, h1] at e1
      simp [upd, h2] at e2
      exact absurd (e2.1 ▸ e1) (hρ i o hi)
    · rw [if_neg h1] at hi
      rw [if_neg h2] at hj
      simp [upd, h1] at e1
      simp [upd, h2] at e2
      exact hs.inj i j b o o' hi hj e1 e2
  · rw [AH.push_blk] at hi
    by_cases h1 : i = h.nx
    · simp [upd, h1] at e
      exact e.1 ▸ hI
    · rw [if_neg h1] at hi
      simp [upd, h1] at e
      exact hs.apart i b o hi e
  · rw [AH.push_nx]
    by_cases h1 : i = h.nx
    · omega
    · simp [upd, h1] at e
      have := hs.nx i x e
      omega

theorem execOp_act {o : Oper} {a a' : Act} (hs : ∀ cs b, o.op ≠ .select cs b) (h : ∀ x ∈ o.op.operands, a.eval x = a'.eval x) : execOp a.eval o = execOp a'.eval o := execOp_congr o hs h

/-- A slot's value put back. -/
theorem wpOp_back {all : Array Oper} {i : Nat} {o : Oper} {t : Nat} {p : Value} {K : Act → World → Prop} {Q : Exit → Act → World → Prop} (hi : all[i]? = some o) (hg : o.guard = none) (hd : o.dst ≠ some t) (hs : ∀ cs b, o.op ≠ .select cs b) (hop : ∀ y ∈ o.op.operands, y ≠ .tmp t)
    (hp : a.tmps[t]? = some p) (h : wpOp P all (fun e a' w' => Q e (a'.put (some t) p) w') i (fun a' w' => K (a'.put (some t) p) w') (a.put (some t) undef) w) : wpOp P all Q i K a w := by
  have hlt : t < a.tmps.size := by
    rcases Nat.lt_or_ge t a.tmps.size with q | q
    · exact q
    · rw [Array.getElem?_eq_none q] at hp; cases hp
  have hp' : a.tmps[t] = p := by rw [Array.getElem?_eq_getElem hlt] at hp; exact Option.some.inj hp
  have hbackG : ∀ (a : Act), t < a.tmps.size → a.tmps[t]? = some p → ∀ (d : Option Nat) (x : Value), d ≠ some t → ((a.put (some t) undef).put d x).put (some t) p = a.put d x := by
    intro a hlt hp d x hd
    have hp' : a.tmps[t] = p := by rw [Array.getElem?_eq_getElem hlt] at hp; exact Option.some.inj hp
    cases d with
    | none =>
      simp only [Act.put]
      congr 1
      apply Array.ext_getElem?
      intro j
      simp only [Array.getElem?_setIfInBounds, Array.size_setIfInBounds]
      by_cases q : t = j
      · subst q; simp [hlt, hp']
      · simp [q]
    | some d =>
      have hne : d ≠ t := fun q => hd (by rw [q])
      simp only [Act.put]
      congr 1
      apply Array.ext_getElem?
      intro j
      simp only [Array.getElem?_setIfInBounds, Array.size_setIfInBounds]
      by_cases q : t = j
      · subst q; simp [hlt, hp', hne]
      · simp [q]
  have hback := hbackG a hlt hp
  have hev : ∀ y ∈ o.op.operands, (a.put (some t) undef).eval y = a.eval y := fun y hy => Act.eval_put fun d hd' hx => hop y hy (by cases hd'; exact hx)
  have hex : execOp (a.put (some t) undef).eval o = execOp a.eval o := execOp_congr o hs hev
  unfold wpOp at h ⊢
  simp only [hi] at h ⊢
  have hw : ∀ l, Region.wanted o l = true := fun l => by simp [Region.wanted, hg]
  rw [hw, if_pos rfl] at h ⊢
  rcases h with h | ⟨h, ⟨a1, w1, h2⟩⟩
  · left
    unfold Oper.wp at h ⊢
    rw [hex] at h
    have ha : (a.put (some t) undef).put (some t) p = a := hback none p (by simp)
    generalize (execOp a.eval o).run P w = r at h ⊢
    cases r with
    | ok n w' =>
      cases n with
      | value v => simp only [Oper.upon, hback _ _ hd] at h ⊢; exact h
      | skip => simp only [Oper.upon, hback _ _ hd] at h ⊢; exact h
      | defer d =>
        have := hbackG { a with defers := d :: a.defers } hlt hp o.dst undef hd
        simp only [Oper.upon] at h ⊢
        rw [← this]
        exact h
      | enter f args =>
        simp only [Oper.upon] at h ⊢
        refine h.mono fun e w'' he => ?_
        cases e with
        | returned v => simp only [hback _ _ hd] at he; exact he
        | panicked ch => simp only [ha] at he; exact he
        | outgrown => obtain ⟨a1, w1, h2⟩ := he; exact ⟨_, _, h2⟩
      | row r as =>
        simp only [Oper.upon] at h ⊢
        refine h.mono fun v w'' he => ?_
        simp only [hback _ _ hd] at he; exact he
      | _ => exact h.elim
    | halt st w' =>
      cases st with
      | panic v => simp only [Oper.upon, ha] at h ⊢; exact h
      | _ => exact h.elim
  · right
    refine ⟨?_, ⟨_, _, h2⟩⟩
    unfold Oper.asks at h ⊢
    rw [hex] at h
    exact h

theorem compOp_al {op : Op} {ow : Nat} {zs : List PV} (hc : compOp P ow op = some (.alloc zs)) : ∃ T, op = .alloc T := by
  cases op <;> first
    | exact ⟨_, rfl⟩
    | (exfalso; simp only [compOp, compCall, reduceCtorEq] at hc; done)
    | (exfalso; simp only [compOp, compCall, Option.map_eq_some_iff, reduceCtorEq, and_false, exists_false] at hc; done)
    | (exfalso
       simp only [compOp, compCall] at hc
       (repeat' split at hc) <;> first
         | (cases hc; done)
         | (simp [Option.map_eq_some_iff] at hc; done)
         | (simp only [Option.map_eq_some_iff, Option.bind_eq_some_iff, Function.comp_def, reduceCtorEq, and_false, exists_false] at hc; done)
         | contradiction
         | (simp [Option.bind_eq_some_iff] at hc; done)
         | (simp only [compBin] at hc
            (repeat' split at hc) <;> first
              | (cases hc; done)
              | (simp [Option.map_eq_some_iff] at hc; done)
              | (simp [Option.bind_eq_some_iff] at hc; done)
              | contradiction))

theorem compOp_st {op : Op} {ow n : Nat} {a x : Opd} (hc : compOp P ow op = some (.store n a x)) : ∃ T a0 x0, op = .store T a0 x0 := by
  cases op <;> first
    | exact ⟨_, _, _, rfl⟩
    | (exfalso; simp only [compOp, compCall, reduceCtorEq] at hc; done)
    | (exfalso; simp only [compOp, compCall, Option.map_eq_some_iff, reduceCtorEq, and_false, exists_false] at hc; done)
    | (exfalso
       simp only [compOp, compCall] at hc
       (repeat' split at hc) <;> first
         | (cases hc; done)
         | (simp [Option.map_eq_some_iff] at hc; done)
         | (simp only [Option.map_eq_some_iff, Option.bind_eq_some_iff, Function.comp_def, reduceCtorEq, and_false, exists_false] at hc; done)
         | contradiction
         | (simp [Option.bind_eq_some_iff] at hc; done)
         | (simp only [compBin] at hc
            (repeat' split at hc) <;> first
              | (cases hc; done)
              | (simp [Option.map_eq_some_iff] at hc; done)
              | (simp [Option.bind_eq_some_iff] at hc; done)
              | contradiction))

theorem cv_alloc {c0 : COp} {zs : List PV} (h : cv c0 (.alloc zs)) : c0 = .alloc zs := by
  rcases h with rfl | ⟨_, _, _, _, _, q⟩ | ⟨_, _, _, _, _, _, q⟩ | ⟨_, _, _, _, q⟩
  · rfl
  all_goals cases q
theorem cv_store {c0 : COp} {n : Nat} {a x : Opd} (h : cv c0 (.store n a x)) : c0 = .store n a x := by
  rcases h with rfl | ⟨_, _, _, _, _, q⟩ | ⟨_, _, _, _, _, _, q⟩ | ⟨_, _, _, _, q⟩
  · rfl
  all_goals cases q

theorem put_put (a : Act) (t : Nat) (x y : Value) : (a.put (some t) x).put (some t) y = a.put (some t) y := by
  simp only [Act.put]
  congr 1
  apply Array.ext_getElem?
  intro j
  simp only [Array.getElem?_setIfInBounds, Array.size_setIfInBounds]
  by_cases q : t = j
  · simp [q]
  · simp [q]
theorem Fr.put_self (s : Fr) (t : Nat) : Fr.put s (some t) (s t) = s := by
  funext j
  by_cases q : j = t
  · subst q; simp [Fr.put]
  · simp [Fr.put, q]
theorem VR.undef_at {t : Nat} (hf : FR ρ I w nt (a.put (some t) Go.undef) s) (ht : t < nt) : VR ρ I w Go.undef (s t) := by
  have := hf.slot t
  have hlt : t < (a.put (some t) Go.undef).tmps.size := Nat.lt_of_lt_of_le ht hf.size
  have e : (a.put (some t) Go.undef).tmps.getD t Go.undef = Go.undef := by
    simp only [Act.put, Array.size_setIfInBounds] at hlt
    simp [Act.put, Array.getD, hlt]
  rw [e] at this
  exact this
theorem put_back {t : Nat} {p : Value} (hp : a.tmps[t]? = some p) : (a.put (some t) Go.undef).put (some t) p = a := by
  rw [put_put]
  cases a with
  | mk tmps defers =>
    simp only [Act.put] at hp ⊢
    congr 1
    apply Array.ext_getElem?
    intro j
    simp only [Array.getElem?_setIfInBounds]
    by_cases q : t = j
    · subst q
      have hlt : t < tmps.size := by
        rcases Nat.lt_or_ge t tmps.size with q | q
        · exact q
        · rw [Array.getElem?_eq_none q] at hp; cases hp
      simp [hlt]
      rw [Array.getElem?_eq_getElem hlt] at hp
      exact (Option.some.inj hp).symm
    · simp [q]
theorem push_set (h : AH) (B B' : Blk) : (h.push B).set h.nx B' = h.push B' := by
  simp only [AH.push, AH.set]
  congr 1
  funext i
  by_cases q : i = h.nx <;> simp [q]
/-- A store of all of a block that has just been made. -/
theorem wr_all {h : AH} {zs : List PV} {Y : PV} {n : Nat} (hz : zs.length = n) (ho : Y.okc = true) (hn : Y.cells.length = n) : wr (h.push (.cells zs)) (.pt h.nx 0) Y n = some (h.push (.cells Y.cells)) := by
  have hr : (h.push (.cells zs)).row h.nx = some zs := by simp [AH.row, AH.push]
  have hspl : ∀ ys : List PV, ys.length = n → splice zs 0 ys = ys := fun ys hy => by
    apply List.ext_getElem?
    intro j
    rw [splice_get _ _ _ _ (by omega)]
    by_cases q : j < ys.length
    · simp [q]
    · have : zs.length ≤ j := by omega
      simp [q, this]
  cases Y with
  | agg ys =>
    simp only [PV.cells] at hn
    simp only [wr, hr]
    rw [if_pos ⟨hn, by omega⟩, hspl ys hn, push_set]; rfl
  | tup ys => cases ho
  | _ =>
    simp only [PV.cells, List.length_singleton] at hn
    simp only [wr, hr]
    rw [if_pos ⟨hn.symm, by omega⟩, set_splice (by omega), hspl _ (by simpa using hn), push_set]; rfl
/-- What is kept by a region in which a block is made, and stood for later. -/
theorem St.late {ρ1 : Nat → Option (Nat × Nat)} {I1 : Nat → Prop} {h0 h1 : AH} {w0 w1 w2 : World} {b0 : Nat} {zs : List PV} {B : Blk} (st : St ρ I h0 w0 ρ1 I1 h1 w1) (hn : ρ1 h1.nx = none) (hb : w0.heap.size ≤ b0)
    (st2 : St (upd ρ1 h1.nx (b0, 0)) I1 (h1.push (.cells zs)) w1 (upd ρ1 h1.nx (b0, 0)) I1 (h1.push B) w2) (hlt : ∀ i, h1.blk i ≠ none → i ≠ h1.nx) : St ρ I h0 w0 (upd ρ1 h1.nx (b0, 0)) I1 (h1.push B) w2 := by
  have hext : ∀ i x, ρ1 i = some x → upd ρ1 h1.nx (b0, 0) i = some x := fun i x e => by
    have : i ≠ h1.nx := fun e' => by rw [e', hn] at e; cases e
    simp [upd, this, e]
  refine ⟨fun i x e => hext i x (st.ext i x e), st.imm, st.immNew, st2.os.trans st.os, st2.tape.trans st.tape, st2.output.trans st.output, Nat.le_trans st.size st2.size, fun b hb' hl => ?_, fun b C T f e => ?_, fun i b o hl e => ?_, ?_, fun i x e => ?_⟩
  · rw [st2.keep b (by have := st.size; omega) fun i o hl' e => ?_, st.keep b hb' hl]
    rw [AH.push_blk] at hl'
    by_cases q : i = h1.nx
    · simp [upd, q] at e
      omega
    · rw [if_neg q] at hl'
      simp [upd, q] at e
      rcases st.own i b o hl' e with q2 | ⟨j, o', q2, q3⟩
      · omega
      · exact hl j o' q2 q3
  · obtain ⟨C1, e1, n1⟩ := st.row b C T f e
    obtain ⟨C2, e2, n2⟩ := st2.row b C1 T f e1
    exact ⟨C2, e2, n2.trans n1⟩
  · rw [AH.push_blk] at hl
    by_cases q : i = h1.nx
    · simp [upd, q] at e
      left; omega
    · rw [if_neg q] at hl
      simp [upd, q] at e
      exact st.own i b o hl e
  · have := st.nxle
    rw [AH.push_nx]; omega
  · by_cases q : i = h1.nx
    · right; have := st.nxle; omega
    · simp [upd, q] at e
      exact st.low i x e
/-- What holds while a region with a late alloc runs. -/
def LateIv (ia is t n : Nat) (zs : List PV) (ρ : Nat → Option (Nat × Nat)) (I : Nat → Prop) (h : AH) (w : World) (nt : Nat) (listed : Array Bool) (a' : Act) (w' : World) (s1 : Fr) (h1 : AH) : Prop :=
  ∃ ρ' I', St ρ I h w ρ' I' h1 w' ∧ SR ρ' I' h1 w' ∧
    ((isL listed ia = isL listed is ∧ FR ρ' I' w' nt a' s1) ∨
     (isL listed ia = true ∧ isL listed is = false ∧ ∃ b0 Z T, FR ρ' I' w' nt (a'.put (some t) undef) s1 ∧ a'.tmps[t]? = some (.pointer (some ⟨b0, 0, none⟩)) ∧ w'.heap[b0]? = some (.cells Z T (0, 0)) ∧ Z.size = n ∧
       cstCells Z.toList = some zs ∧ w.heap.size ≤ b0 ∧ ¬ I' b0 ∧ ∀ i o, h1.blk i ≠ none → ρ' i ≠ some (b0, o)))

theorem wpAny_late {ow : Nat → Nat} {all : Array Oper} {cops : List COper} {Q : Exit → Act → World → Prop} {ia is t n : Nat} {x : Opd} {zs : List PV} (hcl : cops.length = all.size) (hpair : ∀ (i : Nat) o c, all[i]? = some o → cops[i]? = some c → Pair P ow nt all o c)
    (hia : cops[ia]? = some ⟨some t, .alloc zs, none⟩) (his : cops[is]? = some ⟨none, .store n (.t t) x, none⟩) (hne : ia ≠ is) (hzs : zs.length = n) (hx : t ∉ x.slots)
    (hedge : ∀ o, all[is]? = some o → ia ∈ edges o)
    (hoth : ∀ j o, all[j]? = some o → j ≠ is → j ≠ ia → o.guard = none ∧ o.dst ≠ some t ∧ (∀ y ∈ o.op.operands, y ≠ .tmp t) ∧ ∀ cs b, o.op ≠ .select cs b)
    (hco : CallOk P call) (hp : PureOk pu call) (hwf : WfOk call) (hd : drawOk pu all.toList ((cops.set ia ⟨some t, .mov (.c .undef), none⟩).set is ⟨some t, .boxN n x, none⟩) = true)
    (fuel : Nat) (listed : Array Bool) (a : Act) (w : World) (ρ : Nat → Option (Nat × Nat)) (I : Nat → Prop) (s : Fr) (h : AH) (hsz : listed.size = all.size) (hlen : (remOf all.size listed).length ≤ fuel)
    (hl0 : ∀ i, isL listed i = false) (hf : FR ρ I w nt a s) (hs : SR ρ I h w)
    (e : evSeq call ((cops.set ia ⟨some t, .mov (.c .undef), none⟩).set is ⟨some t, .boxN n x, none⟩) (remOf all.size listed) s h = some (s', h'))
    (hQ : ∀ a' w' ρ' I', St ρ I h w ρ' I' h' w' → SR ρ' I' h' w' → FR ρ' I' w' nt a' s' → Q .normal a' w') : wpAny P .any all Q fuel listed a w := by
  have ial : ia < cops.length := by
    rcases Nat.lt_or_ge ia cops.length with q | q
    · exact q
    · rw [List.getElem?_eq_none q] at hia; cases hia
  have isl : is < cops.length := by
    rcases Nat.lt_or_ge is cops.length with q | q
    · exact q
    · rw [List.getElem?_eq_none q] at his; cases his
  have hget : ∀ (i : Nat) (c : COper), ((cops.set ia ⟨some t, .mov (.c .undef), none⟩).set is ⟨some t, .boxN n x, none⟩)[i]? = some c → (i = is ∧ c = ⟨some t, .boxN n x, none⟩) ∨ (i ≠ is ∧ i = ia ∧ c = ⟨some t, .mov (.c .undef), none⟩) ∨ (i ≠ is ∧ i ≠ ia ∧ cops[i]? = some c) := by
    intro i c hc
    rw [List.getElem?_set] at hc
    by_cases h1 : is = i
    · rw [if_pos h1] at hc
      left
      split at hc
      · cases hc; exact ⟨h1.symm, rfl⟩
      · cases hc
    · rw [if_neg h1, List.getElem?_set] at hc
      by_cases h2 : ia = i
      · rw [if_pos h2] at hc
        right; left
        split at hc
        · cases hc; exact ⟨fun q => h1 q.symm, h2.symm, rfl⟩
        · exact absurd ial ‹_›
      · rw [if_neg h2] at hc
        right; right
        exact ⟨fun q => h1 q.symm, fun q => h2 q.symm, hc⟩
  have htn : t < nt := by
    have hio : all[ia]? = some all[ia] := Array.getElem?_eq_getElem (by omega)
    have hpi := hpair ia _ _ hio hia
    exact hpi.dlt t (by rw [← hpi.dst])
  refine wpAny_gen (LateIv ia is t n zs ρ I h w nt) (by simpa using hcl) hp hwf (fun _ _ _ _ _ ⟨_, _, _, hs, _⟩ => hs.wfh) ?_ hd fuel listed a w s h hsz hlen (fun i o hi => by rw [hl0] at hi; cases hi) ⟨ρ, I, .refl, hs, .inl ⟨by rw [hl0, hl0], hf⟩⟩ e ?_
  · rintro listed i o c a w1 s h1 s2 h2 K hsz' hia' hil hi hic ⟨ρ1, I1, st, hs1, hiv⟩ hst hrd hK
    have hiL : i < listed.size := by omega
    rcases hget i c hic with ⟨rfl, rfl⟩ | ⟨n1, rfl, rfl⟩ | ⟨n1, n2, hc⟩
    · -- the store
      have hLa : isL listed ia = true := hrd ia (hedge o hi)
      rcases hiv with ⟨q, _⟩ | ⟨q1, q2, b0, Z, T, hf1, hpt, hb, hZ, hzc, hb0, hI, hρ⟩
      · rw [hLa, hil] at q; cases q
      have hpi := hpair i o _ hi his
      have ho : ∃ T' a0 x0, o.op = .store T' a0 x0 ∧ szT P T' = some n ∧ opd a0 = some (.t t) ∧ opd x0 = some x := by
        rcases hpi.op with ⟨b, c0, hc0, hcv⟩ | hb'
        · rw [cv_store hcv] at hc0
          obtain ⟨T', a0, x0, hT⟩ := compOp_st hc0
          rw [hT] at hc0
          simp only [compOp] at hc0
          split at hc0
          · rename_i n' X Y h1 h2 h3
            cases hc0
            exact ⟨T', a0, x0, hT, h1, h2, h3⟩
          · cases hc0
        · cases hb'
      obtain ⟨T', a0, x0, hT, hn, ha0, hx0⟩ := ho
      have ha0' : a0 = .tmp t := by
        cases a0 with
        | tmp u => simp only [opd, Option.some.injEq, Opd.t.injEq] at ha0; rw [ha0]
        | const c => simp only [opd, Option.map_eq_some_iff] at ha0; obtain ⟨_, _, q⟩ := ha0; cases q
        | global g => simp [opd] at ha0
        | func f => simp [opd] at ha0
      have hxt : x0 ≠ .tmp t := fun q => by
        rw [q] at hx0
        simp only [opd, Option.some.injEq] at hx0
        exact hx (by rw [← hx0]; simp [Opd.slots])
      have hg : o.guard = none := by
        rcases hpi.guard with ⟨q, _⟩ | ⟨_, _, _, _, _, q, _⟩
        · exact q
        · cases q
      have hdst : o.dst = none := by rw [← hpi.dst]
      obtain ⟨v, rfl, hev⟩ := evStep_inv hst
      have hev2 : (x.val s).okc = true ∧ (x.val s).cells.length = n ∧ v = .pt h1.nx 0 ∧ h2 = h1.push (.cells (x.val s).cells) := by
        rcases hev with ⟨_, hev⟩ | ⟨q, _⟩
        · have := (evOpB_inv hev).2
          simp only [evOp] at this
          split at this
          · rename_i hc; cases this; exact ⟨hc.1, hc.2, rfl, rfl⟩
          · cases this
        · cases q
      obtain ⟨hok, hcl', rfl, rfl⟩ := hev2
      obtain ⟨z1, z2⟩ := cstCells_vr (ρ := ρ1) (I := I1) (w := w1) _ _ hzc
      have hs2 := hs1.adopt (zs := zs) hb (by rw [hZ, hzs]; exact Nat.le_refl _) hI (fun j hj => by have := z2 j hj; simpa [Array.getD_eq_getD_getElem?] using this) (cstCells_one _ _ hzc) hρ
      have hext : ∀ i x, ρ1 i = some x → upd ρ1 h1.nx (b0, 0) i = some x := fun i x e => by
        have : i ≠ h1.nx := fun e' => by rw [e', hs1.nxNone] at e; cases e
        simp [upd, this, e]
      have hxv : VR (upd ρ1 h1.nx (b0, 0)) I1 w1 (a.eval x0) (x.val s) := by
        have h1 := opd_vr hx0 hf1
        have h2 : (a.put (some t) Go.undef).eval x0 = a.eval x0 := Act.eval_put fun d hd' hx' => hxt (by cases hd'; exact hx')
        rw [h2] at h1
        exact h1.mono hext (fun _ e => e) (fun _ _ => rfl) (fun b C T f e => ⟨C, e, rfl⟩)
      have hpv : VR (upd ρ1 h1.nx (b0, 0)) I1 w1 (.pointer (some ⟨b0, 0, none⟩)) (.pt h1.nx 0) := by
        have : VR (upd ρ1 h1.nx (b0, 0)) I1 w1 (.pointer (some ⟨b0, 0 + 0, none⟩)) (.pt h1.nx 0) := .pt (by simp [upd])
        simpa using this
      obtain ⟨w2, hrun, hs3, st2⟩ := store_ok (P := P) hs2 hn hpv hxv (wr_all hzs hok hcl')
      have hav : a.eval a0 = .pointer (some ⟨b0, 0, none⟩) := by
        rw [ha0']
        show a.tmps.getD t Go.undef = _
        simp [Array.getD_eq_getD_getElem?, hpt]
      unfold wpOp
      simp only [hi]
      have hw : ∀ l, Region.wanted o l = true := fun l => by simp [Region.wanted, hg]
      rw [hw, if_pos rfl]
      left
      unfold Oper.wp
      have hrun2 : (execOp a.eval o).run P w1 = .ok .skip w2 := by
        simp only [execOp, hT]
        rw [hav]
        simp [hrun]
      rw [hrun2, Oper.upon_skip, hdst]
      have hLs : isL (listed.setIfInBounds i true) ia = isL (listed.setIfInBounds i true) i := by
        rw [isL_set hiL, isL_set hiL, hLa]; simp
      refine hK a w2 ⟨upd ρ1 h1.nx (b0, 0), I1, st.late hs1.nxNone hb0 st2 (fun i hl e => Nat.lt_irrefl _ (e ▸ hs1.blkNx hl)), hs3, .inl ⟨hLs, ?_⟩⟩
      have hf2 : FR (upd ρ1 h1.nx (b0, 0)) I1 w2 nt (a.put (some t) Go.undef) s := ⟨hf1.size, hf1.defers, fun j => (hf1.slot j).mono hext (fun _ e => e) (fun b hb' => st2.keep b (hs1.inI b hb') fun i o hl e => hs2.apart i b o hl e hb') st2.row⟩
      have hpv2 : VR (upd ρ1 h1.nx (b0, 0)) I1 w2 (.pointer (some ⟨b0, 0, none⟩)) (.pt h1.nx 0) := hpv.step hs2 st2
      have := hf2.put (d := some t) (fun _ q => by cases q; exact htn) hpv2
      rw [put_back hpt] at this
      exact this
    · -- the alloc
      have hiv' : isL listed i = isL listed is ∧ FR ρ1 I1 w1 nt a s := by
        rcases hiv with q | ⟨q, _⟩
        · exact q
        · rw [hil] at q; cases q
      obtain ⟨hLs, hf1⟩ := hiv'
      rw [hil] at hLs
      have hpi := hpair i o _ hi hia
      have ho : ∃ T, o.op = .alloc T ∧ zeroCells P T = some zs := by
        rcases hpi.op with ⟨b, c0, hc0, hcv⟩ | hb
        · rw [cv_alloc hcv] at hc0
          obtain ⟨T, hT⟩ := compOp_al hc0
          rw [hT] at hc0
          simp only [compOp, Option.map_eq_some_iff] at hc0
          obtain ⟨zs', h1, h2⟩ := hc0
          cases h2
          exact ⟨T, hT, h1⟩
        · cases hb
      obtain ⟨T, hT, hz⟩ := ho
      obtain ⟨z, z1, z2⟩ := zeroCells_inv hz
      have hg : o.guard = none := by
        rcases hpi.guard with ⟨q, _⟩ | ⟨_, _, _, _, _, q, _⟩
        · exact q
        · cases q
      have hdst : o.dst = some t := by rw [← hpi.dst]
      obtain ⟨v, rfl, hev⟩ := evStep_inv hst
      have hev2 : v = .undef ∧ h2 = h1 := by
        rcases hev with ⟨_, hev⟩ | ⟨q, _⟩
        · have := (evOpB_inv hev).2
          simp only [evOp] at this
          cases this
          exact ⟨rfl, rfl⟩
        · cases q
      obtain ⟨rfl, rfl⟩ := hev2
      obtain ⟨hs', st'⟩ := hs1.grow (I' := I1) (w' := w1.alloc (.cells z.cells T)) rfl rfl rfl (by simp) (fun b hb => RowKit.Below.heap_alloc _ _ _ hb) (fun _ e => e) (fun _ e => .inl e) (fun b e => by have := hs1.inI b e; simp; omega)
      unfold wpOp
      simp only [hi]
      have hw : ∀ l, Region.wanted o l = true := fun l => by simp [Region.wanted, hg]
      rw [hw, if_pos rfl]
      left
      unfold Oper.wp
      have hrun : (execOp a.eval o).run P w1 = .ok (.value (.pointer (some ⟨w1.heap.size, 0, none⟩))) (w1.alloc (.cells z.cells T)) := by
        simp only [execOp, hT]
        simp [Instr.alloc, run_zeroValue z1, newVar, newRow]
      rw [hrun, Oper.upon_value, hdst]
      have hzc := cstCells_vr (ρ := ρ1) (I := I1) (w := w1) _ _ z2
      refine hK _ _ ⟨ρ1, I1, st.trans st', hs', .inr ⟨by rw [isL_set hiL]; simp, by rw [isL_set hiL, ← hLs]; simp; exact fun q => hne q.symm, w1.heap.size, z.cells, T, ?_, ?_, heap_alloc_new _ _, ?_, z2, st.size, ?_, ?_⟩⟩
      · rw [put_put]
        exact (hf1.step hs1 st').put (d := some t) (fun _ q => by cases q; exact htn) VR.undef
      · have := Nat.lt_of_lt_of_le htn hf1.size
        simp [Act.put, this]
      · have := hzc.1
        simp at this
        omega
      · intro q
        have := hs1.inI _ q; omega
      · intro j o' hl e
        obtain ⟨B, hB⟩ := Option.ne_none_iff_exists'.1 hl
        obtain ⟨b, o2, g1, g2⟩ := hs1.live j B hB
        rw [e] at g1
        cases g1
        have : w1.heap[w1.heap.size]? ≠ none := by
          cases B <;> (obtain ⟨_, _, g, _⟩ := g2; rw [g]; simp)
        simp at this
    · have hp1 := hpair i o c hi hc
      obtain ⟨o1, o2, o3, o4⟩ := hoth i o hi n1 n2
      have hLa : isL (listed.setIfInBounds i true) ia = isL listed ia := by rw [isL_set hiL]; simp [n2.symm]
      have hLs : isL (listed.setIfInBounds i true) is = isL listed is := by rw [isL_set hiL]; simp [n1.symm]
      rcases hiv with ⟨q, hf1⟩ | ⟨q1, q2, b0, Z, T, hf1, hpt, hb, hZ, hzc, hb0, hI, hρ⟩
      · refine wp_step hp1 hi hf1 hs1 hst hco fun a' w' ρ' I' st' hs' hf' => hK a' w' ⟨ρ', I', st.trans st', hs', .inl ⟨by rw [hLa, hLs]; exact q, hf'⟩⟩
      · refine wpOp_back hi o1 o2 o4 o3 hpt (wp_step hp1 hi hf1 hs1 hst hco fun a' w' ρ' I' st' hs' hf' => hK _ w' ⟨ρ', I', st.trans st', hs', .inr ⟨by rw [hLa]; exact q1, by rw [hLs]; exact q2, b0, Z, T, ?_, ?_, ?_, hZ, hzc, hb0, ?_, ?_⟩⟩)
        · rw [put_put]
          have hv : VR ρ' I' w' Go.undef (s2 t) := by
            obtain ⟨v, rfl, _⟩ := evStep_inv hst
            rw [put_get (d := c.dst) fun y hy q => o2 (by rw [← hp1.dst, hy, q])]
            exact (VR.undef_at hf1 htn).step hs1 st'
          have := hf'.put (d := some t) (fun _ q => by cases q; exact htn) hv
          rw [Fr.put_self] at this
          exact this
        · have := Nat.lt_of_lt_of_le htn hf'.size
          simp [Act.put, this]
        · rw [st'.keep b0 _ fun i o hl e => hρ i o hl e]
          · exact hb
          · rcases Nat.lt_or_ge b0 w1.heap.size with q | q
            · exact q
            · rw [Array.getElem?_eq_none q] at hb; cases hb
        · intro q
          rcases st'.immNew b0 q with q | q
          · exact hI q
          · rw [Array.getElem?_eq_none q] at hb; cases hb
        · intro i o hl e
          rcases st'.own i b0 o hl e with q | ⟨j, o', q, e'⟩
          · rw [Array.getElem?_eq_none q] at hb; cases hb
          · exact hρ j o' q e'
  · rintro listed' a' w' hsz2 hrem ⟨ρ', I', st, hs', hiv⟩
    have hL : ∀ i, i < all.size → isL listed' i = true := fun i hi => by
      cases q : isL listed' i with
      | true => rfl
      | false =>
        have : i ∈ remOf all.size listed' := by simp [remOf, q, hi]
        rw [hrem] at this; cases this
    rcases hiv with ⟨_, hf'⟩ | ⟨_, q, _⟩
    · exact hQ a' w' ρ' I' st hs' hf'
    · rw [hL is (by omega)] at q; cases q

theorem lateCops_inv {all : Array Oper} {cops : List COper} (hl : (lateCops all.toList cops).length = cops.length) : lateCops all.toList cops = cops ∨ ∃ ia is t n x zs, cops[ia]? = some ⟨some t, .alloc zs, none⟩ ∧ cops[is]? = some ⟨none, .store n (.t t) x, none⟩ ∧ ia ≠ is ∧ zs.length = n ∧ t ∉ x.slots ∧
    (∀ o, all[is]? = some o → ia ∈ edges o) ∧ (∀ j o, all[j]? = some o → j ≠ is → j ≠ ia → o.guard = none ∧ o.dst ≠ some t ∧ (∀ y ∈ o.op.operands, y ≠ .tmp t) ∧ ∀ cs b, o.op ≠ .select cs b) ∧
    lateCops all.toList cops = (cops.set ia ⟨some t, .mov (.c .undef), none⟩).set is ⟨some t, .boxN n x, none⟩ := by
  unfold lateCops at hl ⊢
  split at hl
  · rename_i ia n t x h1 h2
    split at hl
    · rename_i hc
      right
      simp only [Bool.and_eq_true, bne_iff_ne, ne_eq, Bool.not_eq_true'] at hc
      obtain ⟨hne, hfit, hx⟩ := hc
      simp only [lateFit, Bool.and_eq_true] at hfit
      obtain ⟨f1, f2, f3⟩ := hfit
      have his : cops[cops.length - 1]? = some ⟨none, .store n (.t t) x, none⟩ := by rw [← List.getLast?_eq_getElem?]; exact h2
      have hia : ∃ zs, cops[ia]? = some ⟨some t, .alloc zs, none⟩ ∧ zs.length = n := by
        split at f1
        · rename_i d zs g hget
          simp only [Bool.and_eq_true, beq_iff_eq, Option.isNone_iff_eq_none] at f1
          obtain ⟨⟨rfl, rfl⟩, hz⟩ := f1
          exact ⟨zs, hget, hz⟩
        · cases f1
      obtain ⟨zs, hia, hz⟩ := hia
      refine ⟨ia, cops.length - 1, t, n, x, zs, hia, his, hne, hz, ?_, ?_, ?_, ?_⟩
      · intro q
        have : x.slots.contains t = true := by simpa using q
        rw [this] at hx; cases hx
      · intro o ho
        have ho' : all.toList[cops.length - 1]? = some o := by simpa using ho
        rw [ho'] at f2
        simp only [Bool.and_eq_true] at f2
        simpa using f2.1.1
      · intro j o ho j1 j2
        have hj : j < all.toList.length := by
          rcases Nat.lt_or_ge j all.size with q | q
          · simpa using q
          · rw [Array.getElem?_eq_none q] at ho; cases ho
        have ho' : all.toList[j]? = some o := by simpa using ho
        have := List.all_eq_true.1 f3 j (List.mem_range.2 hj)
        rw [ho'] at this
        simp only [Bool.and_eq_true, Option.isNone_iff_eq_none, Bool.or_eq_true, beq_iff_eq, j1, j2, false_or, bne_iff_ne, ne_eq, Bool.not_eq_true'] at this
        obtain ⟨g1, ⟨g2, g3⟩, g4⟩ := this
        refine ⟨g1, g2, fun y hy q => ?_, fun cs b q => ?_⟩
        · have h3 : o.op.operands.any (isTmp t) = true := by
            rw [Array.any_eq_true']
            exact ⟨y, hy, by rw [q]; simp [isTmp]⟩
          rw [h3] at g3; cases g3
        · rw [q] at g4; cases g4
      · rw [if_pos]
        simp only [Bool.and_eq_true, bne_iff_ne, ne_eq, Bool.not_eq_true']
        refine ⟨hne, ?_, hx⟩
        simp only [lateFit, Bool.and_eq_true]
        exact ⟨f1, f2, f3⟩
    · rename_i hc
      left
      have : cops = [] := List.length_eq_zero_iff.1 hl.symm
      (first | (rw [this]; done) | (rw [this]; simp))
  · left
    have : cops = [] := List.length_eq_zero_iff.1 hl.symm
    (first | (rw [this]; done) | (rw [this]; simp))
end

/-- Code, given calls at every smaller amount of fuel. -/
theorem code_sound (n : Nat)
    (hok : ∀ m, m < n → CallOk P (callW T (evC T m)) ∧ PureOk pu (callW T (evC T m)) ∧ WfOk (callW T (evC T m))) :
    ∀ k, k ≤ n → ∀ (c : Code) (ow : Nat → Nat) (nt : Nat) (s : Fr) (h : AH) (e : EX) (s' : Fr) (h' : AH), evC T k (compCode P pu ow nt c) s h = some (e, s', h') →
    ∀ (a : Act) (w : World) (ρ : Nat → Option (Nat × Nat)) (I : Nat → Prop) (Q : Exit → Act → World → Prop), FR ρ I w nt a s → SR ρ I h w →
      (∀ a' w' ρ' I', St ρ I h w ρ' I' h' w' → SR ρ' I' h' w' → FR ρ' I' w' nt a' s' → Q e.to a' w') → c.wp P Q a w := by
  intro k
  induction k using Nat.strongRecOn with
  | _ k ih =>
    intro hk c ow nt
    cases k with
    | zero => intro s h e s' h' ev; cases ev
    | succ k =>
      induction c with
      | skip =>
        intro s h e s' h' ev a w ρ I Q hf hs hQ
        simp only [compCode, evC] at ev
        cases ev
        exact wp_skip (hQ a w ρ I .refl hs hf)
      | label l =>
        intro s h e s' h' ev a w ρ I Q hf hs hQ
        simp only [compCode, evC] at ev
        cases ev
        exact wp_label (hQ a w ρ I .refl hs hf)
      | exit id =>
        intro s h e s' h' ev a w ρ I Q hf hs hQ
        simp only [compCode, evC] at ev
        cases ev
        exact wp_exit (hQ a w ρ I .refl hs hf)
      | ret =>
        intro s h e s' h' ev a w ρ I Q hf hs hQ
        simp only [compCode, evC] at ev
        cases ev
        exact wp_ret (hQ a w ρ I .refl hs hf)
      | seq x y _ _ =>
        intro s h e s' h' ev a w ρ I Q hf hs hQ
        simp only [compCode, evC] at ev
        cases h1 : evC T k (compCode P pu ow nt x) s h with
        | none => simp [h1] at ev
        | some p =>
          obtain ⟨e1, s1, hh1⟩ := p
          rw [h1] at ev
          refine wp_seq (ih k (by omega) (by omega) x ow nt s h e1 s1 hh1 h1 a w ρ I _ hf hs fun a' w' ρ' I' st hs' hf' => ?_)
          cases e1 with
          | nrm =>
            simp only at ev
            exact ih k (by omega) (by omega) y ow nt s1 hh1 e s' h' ev a' w' ρ' I' Q hf' hs' fun a2 w2 ρ2 I2 st2 hs2 hf2 => hQ a2 w2 ρ2 I2 (st.trans st2) hs2 hf2
          | exit i => cases ev; exact hQ a' w' ρ' I' st hs' hf'
          | ret => cases ev; exact hQ a' w' ρ' I' st hs' hf'
      | cond c x y _ _ =>
        intro s h e s' h' ev a w ρ I Q hf hs hQ
        simp only [compCode] at ev
        cases ho : opd c with
        | none => simp [ho, evC] at ev
        | some C =>
          simp only [ho, evC] at ev
          have hv := opd_vr ho hf
          split at ev
          · rename_i hb
            rw [hb] at hv
            exact wp_cond_true hv.bool_inv (ih k (by omega) (by omega) x ow nt s h e s' h' ev a w ρ I Q hf hs hQ)
          · rename_i hb
            rw [hb] at hv
            exact wp_cond_false hv.bool_inv (ih k (by omega) (by omega) y ow nt s h e s' h' ev a w ρ I Q hf hs hQ)
          · cases ev
      | block id x _ =>
        intro s h e s' h' ev a w ρ I Q hf hs hQ
        simp only [compCode, evC] at ev
        cases h1 : evC T k (compCode P pu ow nt x) s h with
        | none => simp [h1] at ev
        | some p =>
          obtain ⟨e1, s1, hh1⟩ := p
          rw [h1] at ev
          refine wp_block (ih k (by omega) (by omega) x ow nt s h e1 s1 hh1 h1 a w ρ I _ hf hs fun a' w' ρ' I' st hs' hf' => ?_)
          cases e1 with
          | nrm => cases ev; exact hQ a' w' ρ' I' st hs' hf'
          | ret => cases ev; exact hQ a' w' ρ' I' st hs' hf'
          | exit i =>
            cases ev
            have := hQ a' w' ρ' I' st hs' hf'
            simp only [EX.to, Exit.inBlock]
            by_cases q : i = id
            · rw [if_pos q] at this ⊢; exact this
            · rw [if_neg q] at this ⊢; exact this
      | loop x _ =>
        intro s h e s' h' ev a w ρ I Q hf hs hQ
        simp only [compCode] at ev
        refine wp_loop_rounds (k + 1) (rounds_seq (T := T) (n := k + 1) (fun m hm s h e s' h' ev => ih m hm (by omega) x ow nt s h e s' h' ev) (k + 1) (Nat.le_refl _) s h ev a w ρ I hf hs hQ)
      | scope x ihx =>
        intro s h e s' h' ev a w ρ I Q hf hs hQ
        simp only [compCode] at ev
        refine wp_scope_straight (ihx s h e s' h' ev a w ρ I _ hf hs fun a' w' ρ' I' st hs' hf' => ?_)
        have := hQ a' w' ρ' I' st hs' hf'
        cases e <;> exact this
      | region id ops draw =>
        intro s h e s' h' ev a w ρ I Q hf hs hQ
        obtain ⟨c1, c2, c3⟩ := hok k (by omega)
        simp only [compCode] at ev
        split at ev
        · rename_i cops hcops
          obtain ⟨g1, g2⟩ := compOpers_get _ _ hcops
          have hcl : cops.length = ops.size := by simpa using g1
          have hpair : ∀ (i : Nat) o c, ops[i]? = some o → cops[i]? = some c → Pair P ow nt ops o c := fun i o c ho hc => g2 i o c (by simpa using ho) hc
          have hlist : ∀ i o, isL (Array.replicate ops.size false) i = true → ops[i]? = some o → ∀ e ∈ edges o, isL (Array.replicate ops.size false) e = true := by
            intro i o hi
            simp only [isL, Array.getD_eq_getD_getElem?, Array.getElem?_replicate] at hi
            split at hi <;> simp at hi
          have hrem : remOf ops.size (Array.replicate ops.size false) = List.range ops.size := by
            unfold remOf
            rw [List.filter_eq_self]
            intro j hj
            simp only [isL, Array.getD_eq_getD_getElem?, Array.getElem?_replicate]
            split <;> rfl
          have hfuel : (remOf ops.size (Array.replicate ops.size false)).length ≤ ops.size := Nat.le_trans (List.length_filter_le _ _) (by simp)
          have hseqOf : ∀ {call : Nat → List PV → AH → Option (PV × AH)} {cops : List COper} {s s1 : Fr} {h h1 : AH}, cops.length = ops.size → evOps call cops s h = some (s1, h1) → evSeq call cops (List.range ops.size) s h = some (s1, h1) := by
            intro call cops s s1 h h1 hcl hev
            have := evSeq_range (call := call) cops cops [] s h rfl
            rw [hev] at this
            rw [← hcl, List.range_eq_range']
            exact this.symm
          -- a drawn region in the order of the text
          have drawn : ∀ (cops : List COper) (ev : evC T (k + 1) (.reg cops) s h = some (e, s', h')), cops.length = ops.size → (∀ (i : Nat) o c, ops[i]? = some o → cops[i]? = some c → Pair P ow nt ops o c) → drawOk pu ops.toList cops = true → P.follows .mixedOrders = true → (Code.region id ops true).wp P Q a w := by
            intro cops ev hcl hpair hdr hfo
            simp only [evC] at ev
            split at ev
            · rename_i s1 h1 hev
              cases ev
              obtain ⟨st, hs2⟩ : SR ρ I h w.drew ∧ St ρ I h w ρ I h w.drew := hs.drew
              exact wp_region_any hfo (wpAny_seq hcl hpair c1 c2 c3 hdr ops.size _ a w.drew ρ I s h (by simp) hfuel hlist (hf.step hs hs2) st (by rw [hrem]; exact hseqOf hcl hev) fun a' w' ρ' I' st2 hs3 hf3 => hQ a' w' ρ' I' (hs2.trans st2) hs3 hf3)
            · cases ev
          cases draw with
          | false =>
            simp only [Bool.not_false, Bool.true_or, if_true, evC] at ev
            split at ev
            · rename_i s1 h1 hev
              cases ev
              exact wp_region (wpOps_seq hcl hpair c1 _ a w ρ I s h hf hs (hseqOf hcl hev) hQ)
            · cases ev
          | true =>
            simp only [Bool.not_true, Bool.false_or] at ev
            split at ev
            · rename_i hdr
              simp only [Bool.and_eq_true] at hdr
              exact drawn cops ev hcl hpair hdr.1 hdr.2
            · split at ev
              · rename_i hdr
                simp only [Bool.and_eq_true] at hdr
                obtain ⟨l1, l2⟩ := sepFrom_get (B := befs [] (ops.toList.map edges)) (all := cops) cops 0
                refine drawn _ ev (l1.trans hcl) (fun i o c ho hc => ?_) hdr.1 hdr.2
                obtain ⟨c0, ts, hc0, rfl⟩ := l2 i c hc
                exact (hpair i o c0 ho hc0).sep
              · split at ev
                · rename_i hdr
                  simp only [Bool.and_eq_true] at hdr
                  refine drawn _ ev (by rw [loadiCops, List.length_map]; exact hcl) (fun i o c ho hc => ?_) hdr.1 hdr.2
                  simp only [loadiCops, List.getElem?_map, Option.map_eq_some_iff] at hc
                  obtain ⟨c0, hc0, rfl⟩ := hc
                  exact (hpair i o c0 ho hc0).loadi
                split at ev
                · rename_i hdr
                  simp only [Bool.and_eq_true] at hdr
                  obtain ⟨⟨hsafe, hd⟩, hfo⟩ := hdr
                  obtain ⟨l1, l2⟩ := resCops_get cops 0
                  simp only [resSafe, Bool.and_eq_true, List.all_eq_true, decide_eq_true_eq] at hsafe
                  obtain ⟨hs1, hnd⟩ := hsafe
                  cases k with
                  | zero => simp [evC] at ev
                  | succ k =>
                    obtain ⟨c1', c2', c3'⟩ := hok k (by omega)
                    have hresv : evC T (k + 1) (.reg [⟨none, .resv cops.length, none⟩]) s h = some (.nrm, s, ⟨h.nx + cops.length, h.lo, h.blk⟩) := rfl
                    have ev' : evC T (k + 1) (.reg (resCops 0 cops)) s ⟨h.nx + cops.length, h.lo, h.blk⟩ = some (e, s', h') := by
                      have : evC T (k + 1 + 1) (.seq (.reg [⟨none, .resv cops.length, none⟩]) (.reg (resCops 0 cops))) s h = evC T (k + 1) (.reg (resCops 0 cops)) s ⟨h.nx + cops.length, h.lo, h.blk⟩ := by
                        conv => lhs; unfold evC
                        simp only [hresv]
                      rw [← this]; exact ev
                    simp only [evC] at ev'
                    split at ev'
                    · rename_i s1 h1 hev
                      cases ev'
                      obtain ⟨st, hs2⟩ : SR ρ I h w.drew ∧ St ρ I h w ρ I h w.drew := hs.drew
                      refine wp_region_any hfo (wpAny_res (ow := ow) (m := cops.length) (n0 := h.nx) (l1.trans hcl) (fun i o c ho hc => ?_) (nodup_keys hnd) c1' c2' c3' hd ops.size _ a w.drew ρ I s h (by simp) hfuel hlist (hf.step hs hs2) st rfl (by rw [hrem]; exact hseqOf (l1.trans hcl) hev) fun a' w' ρ' I' st2 hs3 hf3 => hQ a' w' ρ' I' (hs2.trans st2) hs3 hf3)
                      have hsc := hs1 c (List.mem_of_getElem? hc)
                      obtain ⟨c0, hc0, q⟩ := l2 i c hc
                      have hp0 := hpair i o c0 ho hc0
                      have cls01 : resK c.op = none → cls pu c.op = 0 ∨ cls pu c.op = 1 := fun hr => by
                        rw [hr] at hsc
                        simpa using hsc
                      rcases q with rfl | ⟨g, n, x, hop, rfl⟩ | ⟨kk, z, b, zs, l, l', hop, rfl⟩
                      · left
                        have hr : resK c.op = none := by
                          cases hq : resK c.op with
                          | none => rfl
                          | some kk =>
                            exfalso
                            obtain ⟨z, b, zs, l, l', hR⟩ := resK_inv hq
                            rcases hp0.op with ⟨bb, cc, hcomp, hcv⟩ | hb
                            · rw [hR] at hcv
                              rcases hcv with rfl | ⟨_, _, _, _, _, q⟩ | ⟨_, _, _, _, _, _, q⟩ | ⟨_, _, _, _, q⟩
                              · exact compOp_noR hcomp
                              all_goals cases q
                            · rw [hR] at hb; cases hb
                        exact ⟨hr, hp0, cls01 hr⟩
                      · left
                        refine ⟨rfl, ⟨hp0.dst, ?_, hp0.dlt, hp0.guard⟩, cls01 rfl⟩
                        rcases hp0.op with ⟨bb, cc, hcomp, hcv⟩ | hb
                        · left
                          rw [hop] at hcv
                          refine ⟨bb, cc, hcomp, ?_⟩
                          rcases hcv with rfl | ⟨_, _, _, _, _, q⟩ | ⟨_, _, _, _, _, _, q⟩ | ⟨_, _, _, _, q⟩
                          · exact .inr (.inr (.inr ⟨_, _, _, rfl, rfl⟩))
                          all_goals cases q
                        · rw [hop] at hb; cases hb
                      · right
                        simp only [resK, decide_eq_true_eq] at hsc
                        refine ⟨kk, z, b, zs, l, l', hsc, rfl, ?_, ?_⟩
                        · have : ({ c0 with op := .mkslice z b zs l l' } : COper) = c0 := by rw [← hop]
                          show Pair P ow nt ops o { c0 with op := .mkslice z b zs l l' }
                          rw [this]; exact hp0
                        · rcases hp0.op with ⟨bb, cc, hcomp, hcv⟩ | hb
                          · rw [hop] at hcv
                            rcases hcv with rfl | ⟨_, _, _, _, _, q⟩ | ⟨_, _, _, _, _, _, q⟩ | ⟨_, _, _, _, q⟩
                            · exact ⟨bb, hcomp⟩
                            all_goals cases q
                          · rw [hop] at hb; cases hb
                    · cases ev'
                · split at ev
                  · rename_i hdr
                    simp only [Bool.and_eq_true, decide_eq_true_eq] at hdr
                    obtain ⟨⟨hle, hd⟩, hfo⟩ := hdr
                    rcases lateCops_inv hle with q | ⟨ia, is, t, nn, x, zs, q1, q2, q3, q4, q5, q6, q7, q8⟩
                    · rw [q] at ev hd
                      exact drawn cops ev hcl hpair hd hfo
                    · rw [q8] at ev hd
                      simp only [evC] at ev
                      split at ev
                      · rename_i s1 h1 hev
                        cases ev
                        obtain ⟨st, hs2⟩ : SR ρ I h w.drew ∧ St ρ I h w ρ I h w.drew := hs.drew
                        have hl0 : ∀ i, isL (Array.replicate ops.size false) i = false := fun i => by
                          simp only [isL, Array.getD_eq_getD_getElem?, Array.getElem?_replicate]
                          split <;> rfl
                        exact wp_region_any hfo (wpAny_late hcl hpair q1 q2 q3 q4 q5 q6 q7 c1 c2 c3 hd ops.size _ a w.drew ρ I s h (by simp) hfuel hl0 (hf.step hs hs2) st (by rw [hrem]; exact hseqOf (by simpa using hcl) hev) fun a' w' ρ' I' st2 hs3 hf3 => hQ a' w' ρ' I' (hs2.trans st2) hs3 hf3)
                      · cases ev
                  · simp [evC] at ev
        · simp [evC] at ev
      | _ => intro s h e s' h' ev; simp [compCode, evC] at ev
end
end Go.Ev

/- Calls: the abstract machine's evaluator is sound. -/
set_option linter.unusedVariables false
set_option linter.unusedSimpArgs false
namespace Go.Ev
section
variable {P : Program} {pu : Nat → Bool} {T : Nat → Option Fun} {ρ : Nat → Option (Nat × Nat)} {I : Nat → Prop} {h h' : AH} {w : World} {nt : Nat} {a : Act} {s s' : Fr} {u : Value} {v : PV}

theorem allO_spec {f : PV → Option PV} : ∀ (vs us : List PV), allO f vs = some us → us.length = vs.length ∧ ∀ j (hj : j < vs.length) (hj' : j < us.length), f vs[j] = some us[j]
  | [], us, e => by cases e; exact ⟨rfl, fun j hj => absurd hj (Nat.not_lt_zero _)⟩
  | v :: vs, us, e => by
    simp only [allO] at e
    split at e
    · rename_i x xs h1 h2
      cases e
      obtain ⟨g1, g2⟩ := allO_spec vs xs h2
      refine ⟨by simp [g1], fun j hj hj' => ?_⟩
      cases j with
      | zero => exact h1
      | succ j => exact g2 j (by simpa using hj) (by simpa using hj')
    · cases e

theorem allO_mono {f g : PV → Option PV} (hfg : ∀ v u, f v = some u → g v = some u) : ∀ (vs us : List PV), allO f vs = some us → allO g vs = some us
  | [], us, e => e
  | v :: vs, us, e => by
    simp only [allO] at e ⊢
    split at e
    · rename_i x xs h1 h2
      rw [hfg _ _ h1, allO_mono hfg vs xs h2]
      exact e
    · cases e

theorem snap_le (hl : h.le h') : ∀ (d : Nat) (v u : PV), snap h d v = some u → snap h' d v = some u
  | 0, _, _, e => by cases e
  | d + 1, v, u, e => by
    have ih := snap_le hl d
    have ihm : ∀ {vs us : List PV}, allO (snap h d) vs = some us → allO (snap h' d) vs = some us := fun e => allO_mono ih _ _ e
    cases v
    case sl n cs =>
      simp only [snap, Option.map_eq_some_iff] at e ⊢
      obtain ⟨us, e1, e2⟩ := e
      exact ⟨us, ihm e1, e2⟩
    case pi cs =>
      simp only [snap, Option.map_eq_some_iff] at e ⊢
      obtain ⟨us, e1, e2⟩ := e
      exact ⟨us, ihm e1, e2⟩
    case agg cs =>
      simp only [snap, Option.map_eq_some_iff] at e ⊢
      obtain ⟨us, e1, e2⟩ := e
      exact ⟨us, ihm e1, e2⟩
    case tup cs =>
      simp only [snap, Option.map_eq_some_iff] at e ⊢
      obtain ⟨us, e1, e2⟩ := e
      exact ⟨us, ihm e1, e2⟩
    case rf z i o n =>
      simp only [snap] at e ⊢
      cases hr : h.row i with
      | none => simp [hr] at e
      | some cs =>
        simp only [hr] at e
        simp only [row_le hl hr]
        split at e
        · rename_i hle
          rw [if_pos hle]
          simp only [Option.map_eq_some_iff] at e ⊢
          obtain ⟨us, e1, e2⟩ := e
          exact ⟨us, ihm e1, e2⟩
        · cases e
    case pt i o =>
      simp only [snap] at e ⊢
      cases hr : h.row i with
      | none => simp [hr] at e
      | some cs =>
        simp only [hr] at e
        simp only [row_le hl hr]
        simp only [Option.map_eq_some_iff] at e ⊢
        obtain ⟨us, e1, e2⟩ := e
        exact ⟨us, ihm e1, e2⟩
    case fn f fs cs =>
      simp only [snap] at e ⊢
      split at e
      · rename_i us ws e1 e2
        rw [ihm e1, ihm e2]
        exact e
      · cases e
    all_goals exact e

theorem snap_one : ∀ (d : Nat) (v u : PV), snap h d v = some u → v.one = true → u.one = true
  | 0, _, _, e, _ => by cases e
  | d + 1, v, u, e, h1 => by
    cases v <;> simp only [snap] at e <;> first
      | (cases h1; done)
      | (cases e; rfl)
      | (cases e; done)
      | (simp only [Option.map_eq_some_iff] at e; obtain ⟨us, _, rfl⟩ := e; rfl)
      | (split at e <;> first | (cases e; rfl) | (cases e; done) | (simp only [Option.map_eq_some_iff] at e; obtain ⟨us, _, rfl⟩ := e; rfl) | (split at e <;> first | (simp only [Option.map_eq_some_iff] at e; obtain ⟨us, _, rfl⟩ := e; rfl) | (cases e; done)))

/-- Immutable copies stand for the same values. -/
theorem snap_ok {Z : Nat → Prop} (hs : SR ρ I h w) : ∀ (d : Nat) (u : Value) (v v' : PV), snap h d v = some v' → (noImm h d v = true ∨ ∀ b, I b → Z b) → (own d v = false ∨ ∀ i b o, h.blk i ≠ none → ρ i = some (b, o) → Z b) → VR ρ I w u v →
    VR (fun _ => none) Z w u v'
  | 0, _, _, _, e, _, _, _ => by cases e
  | d + 1, u, v, v', e, hI, hO, hv => by
    have ih := snap_ok (Z := Z) hs d
    have hone : ∀ {vs us : List PV}, allO (snap h d) vs = some us → (∀ x ∈ vs, x.one = true) → ∀ x ∈ us, x.one = true := by
      intro vs us e1 ho x hx
      obtain ⟨j, hj, rfl⟩ := List.mem_iff_getElem.1 hx
      obtain ⟨g1, g2⟩ := allO_spec _ _ e1
      exact snap_one d _ _ (g2 j (by omega) hj) (ho _ (List.getElem_mem _))
    cases v
    case sl n cs =>
      simp only [snap, Option.map_eq_some_iff] at e
      obtain ⟨us, e1, rfl⟩ := e
      obtain ⟨g1, g2⟩ := allO_spec _ _ e1
      cases hv with
      | sl xs hn hA hx ho =>
        by_cases hne : cs = []
        · subst hne
          have : us = [] := List.eq_nil_of_length_eq_zero (by simpa using g1)
          subst this
          exact .sl xs hn (fun q => absurd rfl q) (fun j hj => absurd hj (Nat.not_lt_zero _)) (fun x hx => by cases hx)
        · have hI' : ∀ b, I b → Z b := by
            rcases hI with q | q
            · simp only [noImm, List.isEmpty_iff] at q; exact absurd q hne
            · exact q
          refine .sl xs hn (fun _ => ?_) (fun j hj => ?_) (hone e1 ho)
          · obtain ⟨b, o, rfl, hb, hc⟩ := hA hne
            exact ⟨b, o, rfl, hI' b hb, fun j hj => hc j (by omega)⟩
          · exact ih _ _ _ (g2 j (by omega) hj) (.inr hI') (by
              rcases hO with q | q
              · left
                simp only [own, List.any_eq_false] at q
                have := q cs[j] (List.getElem_mem _)
                simpa using this
              · exact .inr q) (hx j (by omega))
    case emp =>
      simp only [snap] at e
      cases e
      cases hv
      exact .sl (fun _ => undef) (Nat.le_refl _) (fun q => absurd rfl q) (fun j hj => absurd hj (Nat.not_lt_zero _)) (fun x hx => by cases hx)
    case rf z i o n =>
      have hO' : ∀ i b o, h.blk i ≠ none → ρ i = some (b, o) → Z b := by
        rcases hO with q | q
        · cases q
        · exact q
      simp only [snap] at e
      cases hr : h.row i with
      | none => simp [hr] at e
      | some cs =>
        simp only [hr] at e
        split at e
        · rename_i hle
          simp only [Option.map_eq_some_iff] at e
          obtain ⟨us, e1, rfl⟩ := e
          obtain ⟨g1, g2⟩ := allO_spec _ _ e1
          have hlen : us.length = n * z := by rw [g1]; simp; omega
          cases hv with
          | rf0 =>
            have : us = [] := List.eq_nil_of_length_eq_zero (by omega)
            subst this
            exact .sl (fun _ => undef) (Nat.le_refl _) (fun q => absurd rfl q) (fun j hj => absurd hj (Nat.not_lt_zero _)) (fun x hx => by cases hx)
          | rf hρ hn hw hc =>
            rename_i b o' c C T f
            obtain ⟨C2, T2, k1, k2, k3, k4⟩ := own_row hs (row_blk hr) hρ
            refine .sl (fun j => C2.getD (o' + (o + j)) undef) hn (fun _ => ⟨b, o' + o, rfl, hO' i b o' (by rw [row_blk hr]; simp) hρ, fun j hj => ?_⟩) (fun j hj => ?_) (hone e1 fun x hx => k4 x (List.mem_of_mem_drop (List.mem_of_mem_take hx)))
            · simp only [World.cell?, k1]
              simp [Array.getD, Nat.add_assoc, show o' + (o + j) < C2.size by omega]
            · have hj2 : j < ((cs.drop o).take (n * z)).length := by omega
              have hvj := k3 (o + j) (by omega)
              have e3 : ((cs.drop o).take (n * z))[j] = cs[o + j]'(by omega) := by rw [List.getElem_take, List.getElem_drop]
              have e4 := g2 j hj2 hj
              refine ih _ _ _ e4 ?_ ?_ (by rw [e3]; exact hvj)
              · rcases hI with q | q
                · left
                  simp only [noImm, hr, List.all_eq_true] at q
                  exact q _ (List.getElem_mem _)
                · exact .inr q
              · exact .inr hO'
        · cases e
    case pt i o =>
      have hO' : ∀ i b o, h.blk i ≠ none → ρ i = some (b, o) → Z b := by
        rcases hO with q | q
        · cases q
        · exact q
      simp only [snap] at e
      cases hr : h.row i with
      | none => simp [hr] at e
      | some cs =>
        simp only [hr, Option.map_eq_some_iff] at e
        obtain ⟨us, e1, rfl⟩ := e
        obtain ⟨g1, g2⟩ := allO_spec _ _ e1
        cases hv with
        | pt hρ =>
          rename_i b o'
          obtain ⟨C2, T2, k1, k2, k3, k4⟩ := own_row hs (row_blk hr) hρ
          simp only [List.length_drop] at g1
          refine .pi (fun j => C2.getD (o' + (o + j)) undef) (hO' i b o' (by rw [row_blk hr]; simp) hρ) (fun j hj => ?_) (fun j hj => ?_) (hone e1 fun x hx => k4 x (List.mem_of_mem_drop hx))
          · simp only [World.cell?, k1]
            simp [Array.getD, Nat.add_assoc, show o' + (o + j) < C2.size by omega]
          · have hvj := k3 (o + j) (by omega)
            have hj2 : j < (cs.drop o).length := by simp; omega
            have e3 : (cs.drop o)[j] = cs[o + j]'(by omega) := by rw [List.getElem_drop]
            refine ih _ _ _ (g2 j hj2 hj) ?_ (.inr hO') (by rw [e3]; exact hvj)
            rcases hI with q | q
            · left
              simp only [noImm, hr, List.all_eq_true] at q
              exact q _ (List.getElem_mem _)
            · exact .inr q
    case pi cs =>
      simp only [snap, Option.map_eq_some_iff] at e
      obtain ⟨us, e1, rfl⟩ := e
      obtain ⟨g1, g2⟩ := allO_spec _ _ e1
      have hI' : ∀ b, I b → Z b := by
        rcases hI with q | q
        · simp [noImm] at q
        · exact q
      cases hv with
      | pi xs hb hc hx ho =>
        refine .pi xs (hI' _ hb) (fun j hj => hc j (by omega)) (fun j hj => ?_) (hone e1 ho)
        exact ih _ _ _ (g2 j (by omega) hj) (.inr hI') (by
          rcases hO with q | q
          · left
            simp only [own, List.any_eq_false] at q
            have := q cs[j] (List.getElem_mem _)
            simpa using this
          · exact .inr q) (hx j (by omega))
    case fn f fs cs =>
      simp only [snap] at e
      split at e
      · rename_i us ws e1 e2
        cases e
        obtain ⟨g1, g2⟩ := allO_spec _ _ e1
        obtain ⟨g3, g4⟩ := allO_spec _ _ e2
        cases hv with
        | fn q1 q2 q3 q4 =>
          refine .fn (by omega) (by omega) (fun j hj => ih _ _ _ (g2 j (by omega) hj) ?_ ?_ (q3 j (by omega))) (fun j hj => ih _ _ _ (g4 j (by omega) hj) ?_ ?_ (q4 j (by omega)))
          · rcases hI with q | q
            · left
              simp only [noImm, Bool.and_eq_true, List.all_eq_true] at q
              exact q.1 _ (List.getElem_mem _)
            · exact .inr q
          · rcases hO with q | q
            · left
              simp only [own, Bool.or_eq_false_iff, List.any_eq_false] at q
              have := q.1 _ (List.getElem_mem (h := (by omega : j < fs.length)))
              simpa using this
            · exact .inr q
          · rcases hI with q | q
            · left
              simp only [noImm, Bool.and_eq_true, List.all_eq_true] at q
              exact q.2 _ (List.getElem_mem _)
            · exact .inr q
          · rcases hO with q | q
            · left
              simp only [own, Bool.or_eq_false_iff, List.any_eq_false] at q
              have := q.2 _ (List.getElem_mem (h := (by omega : j < cs.length)))
              simpa using this
            · exact .inr q
      · cases e
    case agg cs =>
      simp only [snap, Option.map_eq_some_iff] at e
      obtain ⟨us, e1, rfl⟩ := e
      obtain ⟨g1, g2⟩ := allO_spec _ _ e1
      cases hv with
      | agg q1 q2 ho =>
        refine .agg (by omega) (fun j hj => ih _ _ _ (g2 j (by omega) hj) ?_ ?_ (q2 j (by omega))) (hone e1 ho)
        · rcases hI with q | q
          · left
            simp only [noImm, List.all_eq_true] at q
            exact q _ (List.getElem_mem _)
          · exact .inr q
        · rcases hO with q | q
          · left
            simp only [own, List.any_eq_false] at q
            have := q cs[j] (List.getElem_mem _)
            simpa using this
          · exact .inr q
    case tup cs =>
      simp only [snap, Option.map_eq_some_iff] at e
      obtain ⟨us, e1, rfl⟩ := e
      obtain ⟨g1, g2⟩ := allO_spec _ _ e1
      cases hv with
      | tup q1 q2 =>
        refine .tup (by omega) (fun j hj => ih _ _ _ (g2 j (by omega) hj) ?_ ?_ (q2 j (by omega)))
        · rcases hI with q | q
          · left
            simp only [noImm, List.all_eq_true] at q
            exact q _ (List.getElem_mem _)
          · exact .inr q
        · rcases hO with q | q
          · left
            simp only [own, List.any_eq_false] at q
            have := q cs[j] (List.getElem_mem _)
            simpa using this
          · exact .inr q
    case mp i => simp [snap] at e
    all_goals
      simp only [snap] at e
      cases e
      cases hv
      constructor

theorem evSeqWf {call : Nat → List PV → AH → Option (PV × AH)} (hc : WfOk call) : ∀ (ops : List COper) (s s' : Fr) (h h' : AH), WFH h → evOps call ops s h = some (s', h') → WFH h'
  | [], s, s', h, h', hw, e => by cases e; exact hw
  | o :: r, s, s', h, h', hw, e => by
    rw [evOps_step] at e
    cases h1 : evStep call o s h with
    | none => simp [h1] at e
    | some p =>
      obtain ⟨s1, hh1⟩ := p
      simp only [h1] at e
      exact evSeqWf hc r s1 s' hh1 h' (evStep_wf hc hw h1) e

/-- Calls leave no block beyond the count; the evaluator neither. -/
theorem evC_wf (ht : TOk P pu T) : ∀ (n : Nat), (∀ (c : CCode) (s : Fr) (h : AH) (e : EX) (s' : Fr) (h' : AH), WFH h → evC T n c s h = some (e, s', h') → WFH h') ∧ WfOk (callW T (evC T n)) := by
  intro n
  induction n with
  | zero =>
    refine ⟨fun c s h e s' h' _ ev => (by cases ev), ?_⟩
    intro f as h r h' hw e
    simp only [callW] at e
    split at e
    · rename_i p g hg
      exact (ht.prim f p g hg).1.wf as h r h' hw e
    · split at e
      · split at e
        · simp only [Option.map_eq_some_iff] at e
          obtain ⟨x, _, e2⟩ := e
          cases e2
          exact hw
        · cases e
      · split at e <;> (simp only [evC] at e; cases e)
    · cases e
  | succ n ih =>
    have hcode : ∀ (c : CCode) (s : Fr) (h : AH) (e : EX) (s' : Fr) (h' : AH), WFH h → evC T (n + 1) c s h = some (e, s', h') → WFH h' := by
      intro c s h e s' h' hw ev
      cases c with
      | skip => cases ev; exact hw
      | bad => cases ev
      | exit id => cases ev; exact hw
      | ret => cases ev; exact hw
      | reg ops =>
        simp only [evC] at ev
        split at ev
        · rename_i s1 h1 hev; cases ev; exact evSeqWf ih.2 _ _ _ _ _ hw hev
        · cases ev
      | seq x y =>
        simp only [evC] at ev
        cases h1 : evC T n x s h with
        | none => simp [h1] at ev
        | some p =>
          obtain ⟨e1, s1, hh1⟩ := p
          have w1 := ih.1 _ _ _ _ _ _ hw h1
          rw [h1] at ev
          cases e1 with
          | nrm => exact ih.1 _ _ _ _ _ _ w1 ev
          | exit i => cases ev; exact w1
          | ret => cases ev; exact w1
      | cond c x y =>
        simp only [evC] at ev
        split at ev
        · exact ih.1 _ _ _ _ _ _ hw ev
        · exact ih.1 _ _ _ _ _ _ hw ev
        · cases ev
      | block id x =>
        simp only [evC] at ev
        cases h1 : evC T n x s h with
        | none => simp [h1] at ev
        | some p =>
          obtain ⟨e1, s1, hh1⟩ := p
          have w1 := ih.1 _ _ _ _ _ _ hw h1
          rw [h1] at ev
          cases e1 <;> (cases ev; exact w1)
      | loop x =>
        simp only [evC] at ev
        cases h1 : evC T n x s h with
        | none => simp [h1] at ev
        | some p =>
          obtain ⟨e1, s1, hh1⟩ := p
          have w1 := ih.1 _ _ _ _ _ _ hw h1
          rw [h1] at ev
          cases e1 with
          | nrm => exact ih.1 _ _ _ _ _ _ w1 ev
          | exit i => cases ev; exact w1
          | ret => cases ev; exact w1
    refine ⟨hcode, ?_⟩
    intro f as h r h' hw e
    simp only [callW] at e
    split at e
    · rename_i p g hg
      exact (ht.prim f p g hg).1.wf as h r h' hw e
    · rename_i c hc
      split at e
      · split at e
        · simp only [Option.map_eq_some_iff] at e
          obtain ⟨x, _, e2⟩ := e
          cases e2
          exact hw
        · cases e
      · split at e
        · split at e
          · rename_i s1 h1 hev
            simp only [Option.map_eq_some_iff] at e
            obtain ⟨r0, _, e2⟩ := e
            cases e2
            exact show WFH (h.unbar h1) from hcode _ _ h.bar _ _ h1 hw hev
          · rename_i s1 h1 hev
            simp only [Option.map_eq_some_iff] at e
            obtain ⟨r0, _, e2⟩ := e
            cases e2
            exact show WFH (h.unbar h1) from hcode _ _ h.bar _ _ h1 hw hev
          · cases e
        split at e
        · rename_i s1 h1 hev
          simp only [Option.map_eq_some_iff] at e
          obtain ⟨r0, _, e2⟩ := e
          cases e2
          exact hcode _ _ _ _ _ _ hw hev
        · rename_i s1 h1 hev
          simp only [Option.map_eq_some_iff] at e
          obtain ⟨r0, _, e2⟩ := e
          cases e2
          exact hcode _ _ _ _ _ _ hw hev
        · cases e
    · cases e

def resFn (tmps : Array Value) : ResultVar → Sem Value
  | .tmp t => pure (tmps.getD t undef)
  | .cell x t => do loadVar t (← asAddr (tmps.getD x undef))

theorem results_eq (fn : Func) (tmps : Array Value) : results fn tmps = (do let vs ← fn.results.mapM (resFn tmps); pure (if h : vs.size = 1 then vs[0] else .tuple vs)) := by
  unfold results
  have : (fun x => match x with
    | .tmp t => pure (tmps.getD t undef)
    | .cell a t => do loadVar t (← asAddr (tmps.getD a undef)) : ResultVar → Sem Value) = resFn tmps := by
    funext x
    cases x <;> rfl
  exact congrArg (fun f => (do let vs ← fn.results.mapM f; pure (if h : vs.size = 1 then vs[0] else .tuple vs) : Sem Value)) this

theorem resAll_ok {fs : List ResultVar} : ∀ {rs : List CRes} {vs : List PV}, resTmps P fs = some rs → resAll h s rs = some vs → FR ρ I w nt a s → SR ρ I h w →
    ∃ us : List Value, (fs.mapM (resFn a.tmps)).run P w = .ok us w ∧ us.length = vs.length ∧ ∀ j (hj : j < vs.length), VR ρ I w (us.getD j undef) vs[j] := by
  induction fs with
  | nil =>
    intro rs vs e1 e2 hf hs
    cases e1
    cases e2
    exact ⟨[], by simp, rfl, fun j hj => absurd hj (Nat.not_lt_zero _)⟩
  | cons f fs ih =>
    intro rs vs e1 e2 hf hs
    have fin : ∀ {r : CRes} {rs' : List CRes} {x : Value}, resTmps P fs = some rs' → resAll h s (r :: rs') = some vs →
        (∀ v, resAt h s r = some v → ∃ x, (resFn a.tmps f).run P w = .ok x w ∧ VR ρ I w x v) →
        ∃ us : List Value, ((f :: fs).mapM (resFn a.tmps)).run P w = .ok us w ∧ us.length = vs.length ∧ ∀ j (hj : j < vs.length), VR ρ I w (us.getD j undef) vs[j] := by
      intro r rs' x h1 h2 h3
      simp only [resAll] at h2
      split at h2
      · rename_i v vs' h4 h5
        cases h2
        obtain ⟨x, k1, k2⟩ := h3 v h4
        obtain ⟨us, g1, g2, g3⟩ := ih h1 h5 hf hs
        refine ⟨x :: us, ?_, by simp [g2], fun j hj => ?_⟩
        · rw [List.mapM_cons, Sem.run_bind, k1, Result.andThen_ok, Sem.run_bind, g1, Result.andThen_ok]
          rfl
        · cases j with
          | zero => exact k2
          | succ j => exact g3 j (by simpa using hj)
      · cases h2
    cases f with
    | tmp t =>
      simp only [resTmps, Option.map_eq_some_iff] at e1
      obtain ⟨rs', h1, rfl⟩ := e1
      refine fin (x := undef) h1 e2 fun v hv => ?_
      cases hv
      exact ⟨_, rfl, hf.slot t⟩
    | cell y t =>
      simp only [resTmps] at e1
      split at e1
      · rename_i g n rest hg hn hr
        cases e1
        refine fin (x := undef) hr e2 fun v hv => ?_
        have hl : (if g then (rds h (s y) n).map .agg else rd1 h (s y)) = some v := by
          cases g with
          | true => exact hv
          | false => exact hv
        obtain ⟨x, k1, k2⟩ := load_ok (P := P) hg hn hs (hf.slot y) hl
        refine ⟨x, ?_, k2⟩
        have hp : ∃ ad, a.tmps.getD y undef = .pointer (some ad) := by
          have hv' := hf.slot y
          cases g with
          | true =>
            simp only [resAt, Option.map_eq_some_iff] at hv
            obtain ⟨ds, h1, _⟩ := hv
            obtain ⟨b, o, _, h2, _⟩ := ptr_cells hs hv' h1
            exact ⟨_, h2⟩
          | false =>
            simp only [resAt] at hv
            obtain ⟨b, o, _, h2, _⟩ := ptr_cell hs hv' hv
            exact ⟨_, h2⟩
        obtain ⟨ad, hp⟩ := hp
        show (do loadVar t (← asAddr (a.tmps.getD y Go.undef)) : Sem Value).run P w = .ok x w
        rw [hp] at k1 ⊢
        simp only [Instr.loadAt, Instr.sureAddr, Sem.run_bind, Sem.run_pure, Result.andThen_ok] at k1
        simp only [asAddr, Sem.run_bind, Sem.run_pure, Result.andThen_ok]
        exact k1
      · cases e1

theorem results_ok {fn : Func} {rs : List CRes} {r : PV} (h1 : resTmps P fn.results.toList = some rs) (h2 : resOf rs s h = some r) (hf : FR ρ I w nt a s) (hs : SR ρ I h w) :
    ∃ u, (results fn a.tmps).run P w = .ok u w ∧ VR ρ I w u r := by
  unfold resOf at h2
  have key : ∀ vs, resAll h s rs = some vs → ∃ us : Array Value, us.size = vs.length ∧ (∀ j (hj : j < vs.length), VR ρ I w (us.getD j undef) vs[j]) ∧
      (results fn a.tmps).run P w = .ok (if h : us.size = 1 then us[0] else .tuple us) w := by
    intro vs hvs
    obtain ⟨us, g1, g2, g3⟩ := resAll_ok (P := P) h1 hvs hf hs
    refine ⟨us.toArray, by simpa using g2, fun j hj => by have := g3 j hj; simpa [Array.getD_eq_getD_getElem?] using this, ?_⟩
    rw [results_eq, Array.mapM_eq_mapM_toList]
    simp only [Sem.run_bind, Sem.run_map]
    have : (fn.results.toList.mapM (resFn a.tmps)).run P w = .ok us w := g1
    rw [this]
    rfl
  split at h2
  · rename_i v hv
    cases h2
    obtain ⟨us, k1, k2, k3⟩ := key _ hv
    have k1' : us.size = 1 := k1
    refine ⟨_, k3, ?_⟩
    rw [dif_pos k1']
    have := k2 0 (by simp)
    simpa [Array.getD, k1'] using this
  · rename_i vs hne hv
    cases h2
    obtain ⟨us, k1, k2, k3⟩ := key _ hv
    have k1' : us.size ≠ 1 := by
      rw [k1]
      intro q
      obtain ⟨x, rfl⟩ := List.length_eq_one_iff.1 q
      exact hne x rfl
    refine ⟨_, k3, ?_⟩
    rw [dif_neg k1']
    exact .tup k1 k2
  · cases h2

theorem initFr_rel {us : Array Value} {as : List PV} {nt : Nat} (hv : VRL ρ I w us as) : FR ρ I w nt { tmps := us ++ Array.replicate (nt - us.size) undef, defers := [] } (initFr as) := by
  obtain ⟨h1, h2⟩ := hv
  refine ⟨by simp; omega, rfl, fun t => ?_⟩
  unfold initFr
  by_cases q : t < as.length
  · have e1 : (us ++ Array.replicate (nt - us.size) undef).getD t undef = us.getD t undef := by
      simp only [Array.getD_eq_getD_getElem?, Array.getElem?_append, if_pos (show t < us.size by omega)]
    rw [e1]
    have e2 : as.getD t .undef = as[t] := by simp [List.getD, List.getElem?_eq_getElem q]
    rw [e2]
    exact h2 t q
  · have e1 : (us ++ Array.replicate (nt - us.size) undef).getD t undef = undef := by
      simp only [Array.getD_eq_getD_getElem?, Array.getElem?_append, if_neg (show ¬ t < us.size by omega), Array.getElem?_replicate]
      split <;> rfl
    rw [e1]
    have e2 : as.getD t .undef = .undef := by simp [List.getD, List.getElem?_eq_none (Nat.le_of_not_lt q)]
    rw [e2]
    exact VR.undef

theorem KL.rfl' (h : AH) : KL h h := ⟨rfl, Nat.le_refl _, fun _ _ _ => rfl⟩
theorem KL.trans {h h1 h2 : AH} (a : KL h h1) (b : KL h1 h2) : KL h h2 := by
  refine ⟨b.1.trans a.1, Nat.le_trans a.2.1 b.2.1, fun hl i hi => ?_⟩
  have h1l : h1.lo ≤ h1.nx := by rw [a.1]; exact Nat.le_trans hl a.2.1
  rw [b.2.2 h1l i (by rw [a.1]; exact hi), a.2.2 hl i hi]
theorem KL.push (h : AH) (B : Blk) : KL h (h.push B) :=
  ⟨rfl, Nat.le_succ _, fun hl i hi => by rw [AH.push_blk, if_neg (by omega)]⟩
theorem KL.set (h : AH) {j : Nat} (hj : h.lo ≤ j) (B : Blk) : KL h (h.set j B) :=
  ⟨rfl, Nat.le_refl _, fun hl i hi => by rw [AH.set_blk, if_neg (by omega)]⟩
theorem KL.del (h : AH) {j : Nat} (hj : h.lo ≤ j) : KL h (h.del j) :=
  ⟨rfl, Nat.le_refl _, fun hl i hi => by rw [AH.del_blk, if_neg (by omega)]⟩

def KlOk (call : Nat → List PV → AH → Option (PV × AH)) : Prop := ∀ f as h r h', call f as h = some (r, h') → KL h h'

theorem evOpB_kl {call : Nat → List PV → AH → Option (PV × AH)} {o : COp} (hc : KlOk call) (e : evOpB call o s h = some (v, h')) : KL h h' := by
  have hb := (evOpB_inv e).1
  replace e := (evOpB_inv e).2
  have wrk : ∀ {n : Nat} {p y : PV} {h2 : AH}, lowOk h p = true → wr h p y n = some h2 → KL h h2 := by
    intro n p y h2 hb h3
    cases p with
    | pt i o =>
      simp only [lowOk, decide_eq_true_eq] at hb
      simp only [wr] at h3
      cases hr : h.row i with
      | none => simp [hr] at h3
      | some cs =>
        simp only [hr] at h3
        cases y <;> simp only at h3 <;> first
          | cases h3; done
          | (split at h3 <;> first | (cases h3; exact KL.set h hb _) | (cases h3; done))
    | _ => simp [wr] at h3
  have apk : ∀ {z b : Nat} {x y v : PV} {h2 : AH}, lowOk h x = true → evApp h z b x y = some (v, h2) → KL h h2 := by
    intro z b x y v h2 hb e
    simp only [evApp] at e
    split at e
    · split at e <;> first | (cases e; exact KL.rfl' _) | (cases e; done)
    · split at e
      · split at e
        · cases e; exact KL.push h _
        · cases e
      · simp only [lowOk, decide_eq_true_eq] at hb
        split at e
        · split at e
          · cases e; exact (KL.del h hb).trans (KL.push _ _)
          · cases e
        · cases e
      · cases e
    · cases e
  cases o
  case storeS ts n a x =>
    simp only [barOk, target] at hb
    simp only [evOp] at e
    split at e
    · split at e
      · rename_i h2 h3; cases e; exact wrk hb h3
      · cases e
    · cases e
  case appS ts z b x y =>
    simp only [barOk, target] at hb
    simp only [evOp] at e
    split at e
    · exact apk hb e
    · cases e
  case mksliceR k z b zs l c =>
    simp only [evOp] at e
    split at e
    · split at e
      · rename_i hq; cases e; exact KL.set h hq.2.2.1 _
      · cases e
    · cases e
  case resv m => cases e; exact ⟨rfl, Nat.le_add_right _ _, fun _ _ _ => rfl⟩
  case store n a x =>
    simp only [barOk, target] at hb
    simp only [evOp] at e
    split at e
    · rename_i h2 h3
      cases e
      generalize a.val s = p at hb h3
      cases p with
      | pt i o =>
        simp only [lowOk, decide_eq_true_eq] at hb
        simp only [wr] at h3
        cases hr : h.row i with
        | none => simp [hr] at h3
        | some cs =>
          simp only [hr] at h3
          generalize x.val s = y at h3
          cases y <;> simp only at h3 <;> first
            | cases h3; done
            | (split at h3 <;> first | (cases h3; exact KL.set h hb _) | (cases h3; done))
      | _ => simp [wr] at h3
    · cases e
  case upd kd m k x =>
    simp only [barOk, target] at hb
    simp only [evOp, evUpd] at e
    split at e
    · rename_i i hm
      rw [hm] at hb
      simp only [lowOk, decide_eq_true_eq] at hb
      split at e
      · split at e
        · split at e <;> first | (cases e; exact KL.set h hb _) | (cases e; done)
        · cases e
      · cases e
    · cases e
  case del kd m k =>
    simp only [barOk, target] at hb
    simp only [evOp, evDel] at e
    split at e
    · split at e
      · cases e; exact KL.rfl' _
      · cases e
    · rename_i i hm
      rw [hm] at hb
      simp only [lowOk, decide_eq_true_eq] at hb
      split at e
      · split at e
        · split at e <;> first | (cases e; exact KL.set h hb _) | (cases e; exact KL.rfl' _) | (cases e; done)
        · cases e
      · cases e
    · cases e
  case clear z zs x =>
    simp only [barOk, target] at hb
    simp only [evOp, evClear] at e
    split at e
    · rename_i hm
      rw [hm] at hb
      simp only [lowOk, decide_eq_true_eq] at hb
      split at e
      · split at e
        · cases e; exact KL.set h hb _
        · cases e
      · cases e
    · cases e; exact KL.rfl' _
    · cases e
  case app z b x y =>
    simp only [barOk, target] at hb
    simp only [evOp, evApp] at e
    split at e
    · split at e <;> first | (cases e; exact KL.rfl' _) | (cases e; done)
    · split at e
      · split at e
        · cases e; exact KL.push h _
        · cases e
      · rename_i hm
        rw [hm] at hb
        simp only [lowOk, decide_eq_true_eq] at hb
        split at e
        · split at e
          · cases e; exact (KL.del h hb).trans (KL.push _ _)
          · cases e
        · cases e
      · cases e
    · cases e
  case call f as => exact hc f _ h v h' e
  case callv f as =>
    simp only [evOp] at e
    split at e
    · split at e
      · exact hc _ _ h v h' e
      · cases e
    · cases e
  case callp g f as =>
    simp only [evOp] at e
    split at e
    · split at e
      · exact hc _ _ h v h' e
      · cases e
    · cases e
  all_goals
    simp only [evOp] at e
    first
      | (cases e; done)
      | (obtain ⟨_, rfl⟩ := keep_inv e; exact KL.rfl' _)
      | (cases e; first | exact KL.rfl' _ | exact KL.push h _)
      | (split at e <;> first | (cases e; first | exact KL.rfl' _ | exact KL.push h _) | (cases e; done) | (split at e <;> first | (cases e; first | exact KL.rfl' _ | exact KL.push h _) | (cases e; done)))

theorem evOps_kl {call : Nat → List PV → AH → Option (PV × AH)} (hc : KlOk call) : ∀ (ops : List COper) (s s' : Fr) (h h' : AH), evOps call ops s h = some (s', h') → KL h h'
  | [], s, s', h, h', e => by cases e; exact KL.rfl' _
  | o :: r, s, s', h, h', e => by
    rw [evOps_step] at e
    cases h1 : evStep call o s h with
    | none => simp [h1] at e
    | some p =>
      obtain ⟨s1, hh1⟩ := p
      simp only [h1] at e
      refine KL.trans ?_ (evOps_kl hc r s1 s' hh1 h' e)
      obtain ⟨v, _, q⟩ := evStep_inv h1
      rcases q with ⟨_, q⟩ | ⟨_, _, rfl⟩
      · exact evOpB_kl hc q
      · exact KL.rfl' _

theorem callW_kl (ht : TOk P pu T) {run : CCode → Fr → AH → Option (EX × Fr × AH)} (hr : ∀ c s h e s' h', run c s h = some (e, s', h') → KL h h') : KlOk (callW T run) := by
  intro f as h r h' e
  simp only [callW] at e
  split at e
  · rename_i p g hg
    exact (ht.prim f p g hg).1.kl as h r h' e
  · split at e
    · split at e
      · simp only [Option.map_eq_some_iff] at e
        obtain ⟨x, _, e2⟩ := e
        cases e2
        exact KL.rfl' _
      · cases e
    · split at e
      · have key : ∀ h1, KL h.bar h1 → KL h (h.unbar h1) := fun h1 k => ⟨rfl, k.2.1, fun hl i hi => k.2.2 (Nat.le_refl _) i (Nat.lt_of_lt_of_le hi hl)⟩
        split at e
        · rename_i s1 h1 hev
          simp only [Option.map_eq_some_iff] at e
          obtain ⟨r0, _, e2⟩ := e
          cases e2
          exact key _ (hr _ _ _ _ _ _ hev)
        · rename_i s1 h1 hev
          simp only [Option.map_eq_some_iff] at e
          obtain ⟨r0, _, e2⟩ := e
          cases e2
          exact key _ (hr _ _ _ _ _ _ hev)
        · cases e
      · split at e
        · rename_i s1 h1 hev
          simp only [Option.map_eq_some_iff] at e
          obtain ⟨r0, _, e2⟩ := e
          cases e2
          exact hr _ _ _ _ _ _ hev
        · rename_i s1 h1 hev
          simp only [Option.map_eq_some_iff] at e
          obtain ⟨r0, _, e2⟩ := e
          cases e2
          exact hr _ _ _ _ _ _ hev
        · cases e
  · cases e

theorem evC_kl (ht : TOk P pu T) : ∀ (n : Nat) (c : CCode) (s : Fr) (h : AH) (e : EX) (s' : Fr) (h' : AH), evC T n c s h = some (e, s', h') → KL h h' := by
  intro n
  induction n with
  | zero => intro c s h e s' h' ev; cases ev
  | succ n ih =>
    intro c s h e s' h' ev
    cases c with
    | skip => cases ev; exact KL.rfl' _
    | bad => cases ev
    | exit id => cases ev; exact KL.rfl' _
    | ret => cases ev; exact KL.rfl' _
    | reg ops =>
      simp only [evC] at ev
      split at ev
      · rename_i s1 h1 hev; cases ev; exact evOps_kl (callW_kl ht ih) _ _ _ _ _ hev
      · cases ev
    | seq x y =>
      simp only [evC] at ev
      cases h1 : evC T n x s h with
      | none => simp [h1] at ev
      | some p =>
        obtain ⟨e1, s1, hh1⟩ := p
        have w1 := ih _ _ _ _ _ _ h1
        rw [h1] at ev
        cases e1 with
        | nrm => exact w1.trans (ih _ _ _ _ _ _ ev)
        | exit i => cases ev; exact w1
        | ret => cases ev; exact w1
    | cond c x y =>
      simp only [evC] at ev
      split at ev
      · exact ih _ _ _ _ _ _ ev
      · exact ih _ _ _ _ _ _ ev
      · cases ev
    | block id x =>
      simp only [evC] at ev
      cases h1 : evC T n x s h with
      | none => simp [h1] at ev
      | some p =>
        obtain ⟨e1, s1, hh1⟩ := p
        have w1 := ih _ _ _ _ _ _ h1
        rw [h1] at ev
        cases e1 <;> (cases ev; exact w1)
    | loop x =>
      simp only [evC] at ev
      cases h1 : evC T n x s h with
      | none => simp [h1] at ev
      | some p =>
        obtain ⟨e1, s1, hh1⟩ := p
        have w1 := ih _ _ _ _ _ _ h1
        rw [h1] at ev
        cases e1 with
        | nrm => exact w1.trans (ih _ _ _ _ _ _ ev)
        | exit i => cases ev; exact w1
        | ret => cases ev; exact w1

theorem pureOk (ht : TOk P pu T) (n : Nat) : PureOk pu (callW T (evC T n)) := by
  refine ⟨?_, fun f as h r h' hf hw e => ?_⟩
  rotate_left
  · unfold callW at e
    split at e
    · rename_i p g hg
      exact (ht.prim f p g hg).2.2 hf as h r h' hw e
    · rename_i c hc
      obtain ⟨ow, hcomp⟩ := ht.code f c hc
      obtain ⟨_, _, _, _, _, _, _, _, hx⟩ := compFn_inv hcomp
      have hext : c.ext = true := by rw [hx]; exact hf
      split at e
      · split at e
        · simp only [Option.map_eq_some_iff] at e
          obtain ⟨x, _, e2⟩ := e
          cases e2
          exact fun i B q => q
        · cases e
      · have key : ∀ h1 : AH, KL h.bar h1 → h.le (h.unbar h1) := by
          intro h1 k i B q
          have hi : i < h.nx := by
            rcases Nat.lt_or_ge i h.nx with g | g
            · exact g
            · rw [hw i g] at q; cases q
          exact (k.2.2 (Nat.le_refl _) i hi).trans q
        split at e
        · rename_i s1 h1 hev
          simp only [Option.map_eq_some_iff] at e
          obtain ⟨r0, _, e2⟩ := e
          cases e2
          exact key _ (evC_kl ht _ _ _ _ _ _ _ hev)
        · rename_i s1 h1 hev
          simp only [Option.map_eq_some_iff] at e
          obtain ⟨r0, _, e2⟩ := e
          cases e2
          exact key _ (evC_kl ht _ _ _ _ _ _ _ hev)
        · cases e
    · cases e
  intro f as h r h' hf e
  unfold callW at e ⊢
  split at e
  · rename_i p g hg
    obtain ⟨h1, h2, _⟩ := ht.prim f p g hg
    obtain ⟨k1, k2⟩ := h1.pure (h2 hf) as h r h' e
    exact ⟨k1, fun h3 hl => k2 h3 hl⟩
  · rename_i c hc
    obtain ⟨ow, hcomp⟩ := ht.code f c hc
    obtain ⟨_, _, _, _, _, _, _, hp, _⟩ := compFn_inv hcomp
    have hpure : c.pure = true := by rw [hp]; exact hf
    simp only [hpure, if_true] at e ⊢
    cases h1 : allO (snap h snapDepth) as with
    | none => simp [h1] at e
    | some as' =>
      have key : ∀ h3, h.le h3 → allO (snap h3 snapDepth) as = some as' := fun h3 hl => allO_mono (snap_le hl snapDepth) _ _ h1
      simp only [h1, Option.map_eq_some_iff] at e
      obtain ⟨x, e1, e2⟩ := e
      cases e2
      refine ⟨rfl, fun h3 hl => ?_⟩
      simp only [key h3 hl, e1, Option.map_some]
  · cases e

theorem own_lt (hs : SR ρ I h w) {i b o : Nat} (hl : h.blk i ≠ none) (e : ρ i = some (b, o)) : b < w.heap.size := by
  cases hb : h.blk i with
  | none => exact absurd hb hl
  | some B =>
    obtain ⟨b2, o2, g, hB⟩ := hs.live i B hb
    rw [e] at g
    cases g
    have : w.heap[b]? ≠ none := by
      cases B <;> (obtain ⟨_, _, g, _⟩ := hB; rw [g]; simp)
    rcases Nat.lt_or_ge b w.heap.size with q | q
    · exact q
    · exact absurd (Array.getElem?_eq_none q) this

/-- THE EVALUATOR IS SOUND: what it comes to, the machine's call comes to. -/
theorem callOk (ht : TOk P pu T) : ∀ n, CallOk P (callW T (evC T n)) := by
  intro n
  induction n using Nat.strongRecOn with
  | _ n ih =>
    intro f as h r h' e
    unfold callW at e
    split at e
    · rename_i p g hg
      obtain ⟨h1, _⟩ := ht.prim f p g hg
      exact ⟨h1.callable, h1.calls as h r h' e⟩
    · rename_i c hc
      obtain ⟨ow, hcomp⟩ := ht.code f c hc
      obtain ⟨fn, code, hfn, hbody, hname, hres, hcb, hpu, hxu⟩ := compFn_inv hcomp
      refine ⟨⟨fn, hfn, hname, by rw [hbody]; rfl⟩, fun ρ I w us hs hv => ?_⟩
      have hsound := code_sound (P := P) (pu := pu) (T := T) n (fun m hm => ⟨ih m hm, pureOk ht m, (evC_wf ht m).2⟩) n (Nat.le_refl _) code (ow f) fn.ntmps
      split at e
      · -- a pure call
        split at e
        · rename_i as' has
          simp only [Option.map_eq_some_iff] at e
          obtain ⟨r', e1, e2⟩ := e
          obtain ⟨rfl, rfl⟩ : r' = r ∧ h = h' := by simpa using e2
          -- what may be lent
          let I0 : Nat → Prop := if as.any (own snapDepth) then fun b => b < w.heap.size else I
          have hI0 : ∀ b, I b → I0 b := by
            intro b hb
            simp only [I0]
            split
            · exact hs.inI b hb
            · exact hb
          have hI0lt : ∀ b, I0 b → b < w.heap.size := by
            intro b hb
            simp only [I0] at hb
            split at hb
            · exact hb
            · exact hs.inI b hb
          have hs0 : SR (fun _ => none) I0 AH.zero w :=
            ⟨fun i B q => (by cases q), fun i j b o o' q => absurd rfl q, fun i b o q => absurd rfl q, fun i x q => (by cases q), hI0lt⟩
          have hv0 : VRL (fun _ => none) I0 w us as' := by
            obtain ⟨g1, g2⟩ := allO_spec _ _ has
            refine ⟨by rw [hv.1, g1], fun j hj => ?_⟩
            have hj' : j < as.length := by omega
            refine snap_ok hs snapDepth _ _ _ (g2 j hj' hj) (.inr hI0) ?_ (hv.2 j hj')
            by_cases q : as.any (own snapDepth) = true
            · right
              intro i b o hl e
              simp only [I0, q, if_true]
              exact own_lt hs hl e
            · left
              simp only [Bool.not_eq_true, List.any_eq_false] at q
              have := q as[j] (List.getElem_mem _)
              simpa using this
          have fin : ∀ (e : EX) (s' : Fr) (hc' : AH), e = .nrm ∨ e = .ret → evC T n c.body (initFr as') AH.zero = some (e, s', hc') →
              (match resOf c.res s' hc' with
                | some r0 => if as.any (own snapDepth) && !noImm hc' snapDepth r0 then none else snap hc' snapDepth r0
                | none => none) = some r' → Calls P (rl f) us w (Post ρ I h w r' h) := by
            intro e s' hc' hee hev hr
            rw [hcb] at hev
            refine calls_of_wp hfn hbody (hsound _ _ e s' hc' hev _ w _ I0 _ (initFr_rel hv0) hs0 fun a' w' ρ' I' st hs' hf' => ?_)
            cases hro : resOf c.res s' hc' with
            | none => simp [hro] at hr
            | some r0 =>
              simp only [hro] at hr
              obtain ⟨u, k1, k2⟩ := results_ok (P := P) hres hro hf' hs'
              have hkeep : ∀ b, b < w.heap.size → w'.heap[b]? = w.heap[b]? := fun b hb => st.keep b hb fun i o hl _ => hl rfl
              obtain ⟨g1, g2⟩ := hs.grow (I' := fun b => I b ∨ (w.heap.size ≤ b ∧ b < w'.heap.size)) st.os st.tape st.output st.size hkeep (fun b hb => .inl hb) (fun b hb => hb.imp id fun q => q.1) (fun b hb => by
                rcases hb with q | q
                · have := hs.inI b q; have := st.size; omega
                · exact q.2)
              have hpost : Post ρ I h w r' h (.returned u) w' := by
                refine ⟨ρ, _, u, rfl, g2, g1, ?_⟩
                have hvr : VR (fun _ => none) (fun b => I b ∨ (w.heap.size ≤ b ∧ b < w'.heap.size)) w' u r' := by
                  split at hr
                  · cases hr
                  · rename_i hcond
                    refine snap_ok hs' snapDepth _ _ _ hr ?_ ?_ k2
                    · by_cases q : as.any (own snapDepth) = true
                      · left
                        simpa [q] using hcond
                      · right
                        intro b hb
                        rcases st.immNew b hb with q' | q'
                        · left
                          simp only [I0] at q'
                          rw [if_neg q] at q'
                          exact q'
                        · exact .inr ⟨q', hs'.inI b hb⟩
                    · right
                      intro i b o hl e
                      rcases st.own i b o hl e with q | ⟨j, o', q, _⟩
                      · exact .inr ⟨q, own_lt hs' hl e⟩
                      · exact absurd rfl q
                exact hvr.mono (fun i x q => by cases q) (fun b q => q) (fun b _ => rfl) (fun b C T f q => ⟨C, q, rfl⟩)
              rcases hee with rfl | rfl
              · exact ⟨hf'.defers, u, k1, hpost⟩
              · exact ⟨hf'.defers, u, k1, hpost⟩
          unfold pureRes at e1
          split at e1
          · rename_i s' hc' hev; exact fin .nrm s' hc' (.inl rfl) hev e1
          · rename_i s' hc' hev; exact fin .ret s' hc' (.inr rfl) hev e1
          · cases e1
        · cases e
      · -- in the caller's heap, which is only read
        split at e
        · have fin : ∀ (ex : EX) (s' : Fr) (h1 : AH), ex = .nrm ∨ ex = .ret → evC T n c.body (initFr as) h.bar = some (ex, s', h1) → (resOf c.res s' h1).map (fun r => (r, h.unbar h1)) = some (r, h') → Calls P (rl f) us w (Post ρ I h w r h') := by
            intro ex s' h1 hee hev hr
            simp only [Option.map_eq_some_iff] at hr
            obtain ⟨r0, hro, e2⟩ := hr
            obtain ⟨rfl, rfl⟩ : r0 = r ∧ h.unbar h1 = h' := by simpa using e2
            rw [hcb] at hev
            have hsb : SR ρ I h.bar w := ⟨hs.live, hs.inj, hs.apart, hs.nx, hs.inI⟩
            refine calls_of_wp hfn hbody (hsound _ _ ex s' h1 hev _ w ρ I _ (initFr_rel hv) hsb fun a' w' ρ' I' st hs' hf' => ?_)
            obtain ⟨u, k1, k2⟩ := results_ok (P := P) hres hro hf' hs'
            have st' : St ρ I h w ρ' I' (h.unbar h1) w' := ⟨st.ext, st.imm, st.immNew, st.os, st.tape, st.output, st.size, st.keep, st.row, st.own, st.nxle, st.low⟩
            have hs2 : SR ρ' I' (h.unbar h1) w' := ⟨hs'.live, hs'.inj, hs'.apart, hs'.nx, hs'.inI⟩
            rcases hee with rfl | rfl
            · exact ⟨hf'.defers, u, k1, ρ', I', u, rfl, st', hs2, k2⟩
            · exact ⟨hf'.defers, u, k1, ρ', I', u, rfl, st', hs2, k2⟩
          split at e
          · rename_i s' h1 hev; exact fin .nrm s' h1 (.inl rfl) hev e
          · rename_i s' h1 hev; exact fin .ret s' h1 (.inr rfl) hev e
          · cases e
        -- in the caller's heap
        have fin : ∀ (ex : EX) (s' : Fr) (hc' : AH), ex = .nrm ∨ ex = .ret → evC T n c.body (initFr as) h = some (ex, s', hc') → (resOf c.res s' hc').map (fun r => (r, hc')) = some (r, h') → Calls P (rl f) us w (Post ρ I h w r h') := by
          intro ex s' hc' hee hev hr
          simp only [Option.map_eq_some_iff] at hr
          obtain ⟨r0, hro, e2⟩ := hr
          obtain ⟨rfl, rfl⟩ : r0 = r ∧ hc' = h' := by simpa using e2
          rw [hcb] at hev
          refine calls_of_wp hfn hbody (hsound _ _ ex s' hc' hev _ w ρ I _ (initFr_rel hv) hs fun a' w' ρ' I' st hs' hf' => ?_)
          obtain ⟨u, k1, k2⟩ := results_ok (P := P) hres hro hf' hs'
          rcases hee with rfl | rfl
          · exact ⟨hf'.defers, u, k1, ρ', I', u, rfl, st, hs', k2⟩
          · exact ⟨hf'.defers, u, k1, ρ', I', u, rfl, st, hs', k2⟩
        split at e
        · rename_i s' hc' hev; exact fin .nrm s' hc' (.inl rfl) hev e
        · rename_i s' hc' hev; exact fin .ret s' hc' (.inr rfl) hev e
        · cases e
    · cases e
end
end Go.Ev

/- The evaluator without its fuel: rules that step through code, to be rewritten with, and a rule for loops. -/
set_option linter.unusedVariables false
set_option linter.unusedSimpArgs false
namespace Go.Ev
section
variable {T : Nat → Option Fun}

theorem evOps_mono {call call' : Nat → List PV → AH → Option (PV × AH)} (hc : ∀ f as h r, call f as h = some r → call' f as h = some r) :
    ∀ (ops : List COper) (s : Fr) (h : AH) (r : Fr × AH), evOps call ops s h = some r → evOps call' ops s h = some r := by
  intro ops
  induction ops with
  | nil => intro s h r e; exact e
  | cons o os ih =>
    intro s h r e
    simp only [evOps] at e ⊢
    split at e
    · rename_i hw
      rw [if_pos hw]
      cases hob : evOpB call o.op s h with
      | none => simp [hob] at e
      | some p =>
        rw [hob] at e
        have : evOpB call' o.op s h = some p := by
          unfold evOpB at hob ⊢
          split at hob
          case isFalse => cases hob
          rename_i hbar
          rw [if_pos hbar]
          have ho := hob
          cases hop : o.op <;> simp only [hop, evOp] at ho ⊢ <;> first | exact ho | skip
          · exact hc _ _ _ _ ho
          · split at ho
            · split at ho
              · rename_i hv hlt; rw [if_pos hlt]; exact hc _ _ _ _ ho
              · cases ho
            · cases ho
          · split at ho
            · split at ho
              · rename_i hv hlt; rw [if_pos hlt]; exact hc _ _ _ _ ho
              · cases ho
            · cases ho
        rw [this]
        exact ih _ _ _ e
    · rename_i hw
      rw [if_neg hw]
      exact ih _ _ _ e

theorem callW_mono {run run' : CCode → Fr → AH → Option (EX × Fr × AH)} (hr : ∀ c s h r, run c s h = some r → run' c s h = some r) :
    ∀ (f : Nat) (as : List PV) (h : AH) (r : PV × AH), callW T run f as h = some r → callW T run' f as h = some r := by
  intro f as h r e
  unfold callW at e ⊢
  split at e
  · exact e
  · split at e
    · rename_i c hc hp
      rw [if_pos hp]
      split at e
      · rename_i as' has
        cases hb : run c.body (initFr as') AH.zero with
        | none => simp [hb, pureRes] at e
        | some p => rw [hr _ _ _ _ hb]; rw [hb] at e; exact e
      · cases e
    · rename_i c hc hp
      rw [if_neg hp]
      split at e
      · rename_i hx
        rw [if_pos hx]
        cases hb : run c.body (initFr as) h.bar with
        | none => simp [hb] at e
        | some p => rw [hr _ _ _ _ hb]; rw [hb] at e; exact e
      rename_i hx
      rw [if_neg hx]
      cases hb : run c.body (initFr as) h with
      | none => simp [hb] at e
      | some p => rw [hr _ _ _ _ hb]; rw [hb] at e; exact e
  · cases e

theorem evC_step : ∀ (n : Nat) (c : CCode) (s : Fr) (h : AH) (r : EX × Fr × AH), evC T n c s h = some r → evC T (n + 1) c s h = some r := by
  intro n
  induction n with
  | zero => intro c s h r e; cases e
  | succ n ih =>
    intro c s h r e
    unfold evC at e ⊢
    cases c with
    | skip => exact e
    | bad => exact e
    | reg ops =>
      simp only at e ⊢
      cases hb : evOps (callW T (evC T n)) ops s h with
      | none => simp [hb] at e
      | some p => rw [evOps_mono (callW_mono ih) _ _ _ _ hb]; rw [hb] at e; exact e
    | seq a b =>
      simp only at e ⊢
      cases hb : evC T n a s h with
      | none => simp [hb] at e
      | some p =>
        rw [ih _ _ _ _ hb]
        rw [hb] at e
        obtain ⟨ex, s', h'⟩ := p
        cases ex with
        | nrm => exact ih _ _ _ _ e
        | exit i => exact e
        | ret => exact e
    | cond c a b =>
      simp only at e ⊢
      split at e
      · rename_i hv; exact ih _ _ _ _ e
      · rename_i hv; exact ih _ _ _ _ e
      · cases e
    | block id c =>
      simp only at e ⊢
      cases hb : evC T n c s h with
      | none => simp [hb] at e
      | some p => rw [ih _ _ _ _ hb]; rw [hb] at e; exact e
    | loop c =>
      simp only at e ⊢
      cases hb : evC T n c s h with
      | none => simp [hb] at e
      | some p =>
        rw [ih _ _ _ _ hb]
        rw [hb] at e
        obtain ⟨ex, s', h'⟩ := p
        cases ex with
        | nrm => exact ih _ _ _ _ e
        | exit i => exact e
        | ret => exact e
    | exit id => exact e
    | ret => exact e

theorem evC_le {n m : Nat} (hm : n ≤ m) {c : CCode} {s : Fr} {h : AH} {r : EX × Fr × AH} (e : evC T n c s h = some r) : evC T m c s h = some r := by
  induction hm with
  | refl => exact e
  | step _ ih => exact evC_step _ _ _ _ _ ih

theorem callW_le {n m : Nat} (hm : n ≤ m) {f : Nat} {as : List PV} {h : AH} {r : PV × AH} (e : callW T (evC T n) f as h = some r) : callW T (evC T m) f as h = some r :=
  callW_mono (fun _ _ _ _ => evC_le hm) _ _ _ _ e

theorem evOps_le {n m : Nat} (hm : n ≤ m) {ops : List COper} {s : Fr} {h : AH} {r : Fr × AH} (e : evOps (callW T (evC T n)) ops s h = some r) : evOps (callW T (evC T m)) ops s h = some r :=
  evOps_mono (fun _ _ _ _ => callW_le hm) _ _ _ _ e

/-- A call that ends. -/
def CE (T : Nat → Option Fun) (f : Nat) (as : List PV) (h : AH) (v : PV) (h' : AH) : Prop := ∃ n, callW T (evC T n) f as h = some (v, h')
/-- Code that ends so. -/
def WC (T : Nat → Option Fun) (c : CCode) (s : Fr) (h : AH) (Q : EX → Fr → AH → Prop) : Prop := ∃ n ex s' h', evC T n c s h = some (ex, s', h') ∧ Q ex s' h'
def WO (T : Nat → Option Fun) (ops : List COper) (s : Fr) (h : AH) (Q : Fr → AH → Prop) : Prop := ∃ n s' h', evOps (callW T (evC T n)) ops s h = some (s', h') ∧ Q s' h'
def W1 (T : Nat → Option Fun) (o : COp) (s : Fr) (h : AH) (Q : PV → AH → Prop) : Prop := ∃ n v h', evOpB (callW T (evC T n)) o s h = some (v, h') ∧ Q v h'

theorem WC.imp {c : CCode} {s : Fr} {h : AH} {Q Q' : EX → Fr → AH → Prop} (hw : WC T c s h Q) (hq : ∀ e s h, Q e s h → Q' e s h) : WC T c s h Q' := by
  obtain ⟨n, ex, s', h', e, q⟩ := hw
  exact ⟨n, ex, s', h', e, hq _ _ _ q⟩

def thenQ (k : Fr → AH → Prop) (Q : EX → Fr → AH → Prop) : EX → Fr → AH → Prop
  | .nrm, s, h => k s h
  | .exit i, s, h => Q (.exit i) s h
  | .ret, s, h => Q .ret s h

def blockQ (id : Nat) (Q : EX → Fr → AH → Prop) : EX → Fr → AH → Prop
  | .nrm, s, h => Q .nrm s h
  | .exit i, s, h => if i = id then Q .nrm s h else Q (.exit i) s h
  | .ret, s, h => Q .ret s h

def condQ (v : PV) (A B : Prop) : Prop :=
  match v with
  | .bool true => A
  | .bool false => B
  | _ => False

def opQ (r : Option (PV × AH)) (Q : PV → AH → Prop) : Prop :=
  match r with
  | some (v, h) => Q v h
  | .none => False

theorem thenQ_nrm (k : Fr → AH → Prop) (Q : EX → Fr → AH → Prop) (s : Fr) (h : AH) : thenQ k Q .nrm s h = k s h := rfl
theorem thenQ_exit (k : Fr → AH → Prop) (Q : EX → Fr → AH → Prop) (s : Fr) (h : AH) (i : Nat) : thenQ k Q (.exit i) s h = Q (.exit i) s h := rfl
theorem thenQ_ret (k : Fr → AH → Prop) (Q : EX → Fr → AH → Prop) (s : Fr) (h : AH) : thenQ k Q .ret s h = Q .ret s h := rfl
theorem blockQ_nrm (id : Nat) (Q : EX → Fr → AH → Prop) (s : Fr) (h : AH) : blockQ id Q .nrm s h = Q .nrm s h := rfl
theorem blockQ_exit (id : Nat) (Q : EX → Fr → AH → Prop) (s : Fr) (h : AH) (i : Nat) : blockQ id Q (.exit i) s h = if i = id then Q .nrm s h else Q (.exit i) s h := rfl
theorem blockQ_ret (id : Nat) (Q : EX → Fr → AH → Prop) (s : Fr) (h : AH) : blockQ id Q .ret s h = Q .ret s h := rfl
theorem condQ_bool (b : Bool) (A B : Prop) : condQ (.bool b) A B = if b = true then A else B := by cases b <;> simp [condQ]
theorem condQ_true (A B : Prop) : condQ (.bool true) A B = A := rfl
theorem condQ_false (A B : Prop) : condQ (.bool false) A B = B := rfl
theorem opQ_some (v : PV) (h : AH) (Q : PV → AH → Prop) : opQ (some (v, h)) Q = Q v h := rfl

variable {s : Fr} {h : AH} {Q : EX → Fr → AH → Prop}

theorem WC_skip : WC T .skip s h Q = Q .nrm s h := by
  apply propext
  constructor
  · rintro ⟨n, ex, s', h', e, q⟩
    cases n with
    | zero => cases e
    | succ n => simp only [evC] at e; cases e; exact q
  · intro q; exact ⟨1, _, _, _, rfl, q⟩

theorem WC_exit {i : Nat} : WC T (.exit i) s h Q = Q (.exit i) s h := by
  apply propext
  constructor
  · rintro ⟨n, ex, s', h', e, q⟩
    cases n with
    | zero => cases e
    | succ n => simp only [evC] at e; cases e; exact q
  · intro q; exact ⟨1, _, _, _, rfl, q⟩

theorem WC_ret : WC T .ret s h Q = Q .ret s h := by
  apply propext
  constructor
  · rintro ⟨n, ex, s', h', e, q⟩
    cases n with
    | zero => cases e
    | succ n => simp only [evC] at e; cases e; exact q
  · intro q; exact ⟨1, _, _, _, rfl, q⟩

theorem WC_reg {ops : List COper} : WC T (.reg ops) s h Q = WO T ops s h (Q .nrm) := by
  apply propext
  constructor
  · rintro ⟨n, ex, s', h', e, q⟩
    cases n with
    | zero => cases e
    | succ n =>
      simp only [evC] at e
      cases hb : evOps (callW T (evC T n)) ops s h with
      | none => simp [hb] at e
      | some p => rw [hb] at e; cases e; exact ⟨n, _, _, hb, q⟩
  · rintro ⟨n, s', h', e, q⟩
    exact ⟨n + 1, .nrm, s', h', by simp only [evC, e], q⟩

theorem WC_seq {a b : CCode} : WC T (.seq a b) s h Q = WC T a s h (thenQ (fun s' h' => WC T b s' h' Q) Q) := by
  apply propext
  constructor
  · rintro ⟨n, ex, s', h', e, q⟩
    cases n with
    | zero => cases e
    | succ n =>
      simp only [evC] at e
      cases hb : evC T n a s h with
      | none => simp [hb] at e
      | some p =>
        obtain ⟨e1, s1, h1⟩ := p
        rw [hb] at e
        refine ⟨n, e1, s1, h1, hb, ?_⟩
        cases e1 with
        | nrm => exact ⟨n, _, _, _, e, q⟩
        | exit i => cases e; exact q
        | ret => cases e; exact q
  · rintro ⟨n, e1, s1, h1, hb, q⟩
    cases e1 with
    | nrm =>
      obtain ⟨m, ex, s', h', e, q⟩ := q
      refine ⟨max n m + 1, ex, s', h', ?_, q⟩
      simp only [evC, evC_le (Nat.le_max_left n m) hb]
      exact evC_le (Nat.le_max_right n m) e
    | exit i => exact ⟨n + 1, _, _, _, by simp only [evC, hb], q⟩
    | ret => exact ⟨n + 1, _, _, _, by simp only [evC, hb], q⟩

theorem WC_cond {c : Opd} {a b : CCode} : WC T (.cond c a b) s h Q = condQ (c.val s) (WC T a s h Q) (WC T b s h Q) := by
  apply propext
  constructor
  · rintro ⟨n, ex, s', h', e, q⟩
    cases n with
    | zero => cases e
    | succ n =>
      simp only [evC] at e
      split at e
      · rename_i hv; rw [hv]; exact ⟨n, _, _, _, e, q⟩
      · rename_i hv; rw [hv]; exact ⟨n, _, _, _, e, q⟩
      · cases e
  · intro q
    unfold condQ at q
    split at q
    · rename_i hv
      obtain ⟨n, ex, s', h', e, q⟩ := q
      exact ⟨n + 1, ex, s', h', by simp only [evC, hv]; exact e, q⟩
    · rename_i hv
      obtain ⟨n, ex, s', h', e, q⟩ := q
      exact ⟨n + 1, ex, s', h', by simp only [evC, hv]; exact e, q⟩
    · exact q.elim

theorem WC_block {id : Nat} {c : CCode} : WC T (.block id c) s h Q = WC T c s h (blockQ id Q) := by
  apply propext
  constructor
  · rintro ⟨n, ex, s', h', e, q⟩
    cases n with
    | zero => cases e
    | succ n =>
      simp only [evC] at e
      cases hb : evC T n c s h with
      | none => simp [hb] at e
      | some p =>
        obtain ⟨e1, s1, h1⟩ := p
        rw [hb] at e
        refine ⟨n, e1, s1, h1, hb, ?_⟩
        cases e1 with
        | nrm => cases e; exact q
        | exit i =>
          simp only [Option.some.injEq, Prod.mk.injEq] at e
          obtain ⟨rfl, rfl, rfl⟩ := e
          rw [blockQ_exit]
          by_cases hi : i = id <;> simpa [hi] using q
        | ret => cases e; exact q
  · rintro ⟨n, e1, s1, h1, hb, q⟩
    cases e1 with
    | nrm => exact ⟨n + 1, _, _, _, by simp only [evC, hb], q⟩
    | exit i =>
      rw [blockQ_exit] at q
      by_cases hi : i = id
      · rw [if_pos hi] at q; exact ⟨n + 1, .nrm, _, _, by simp only [evC, hb, if_pos hi], q⟩
      · rw [if_neg hi] at q; exact ⟨n + 1, .exit i, _, _, by simp only [evC, hb, if_neg hi], q⟩
    | ret => exact ⟨n + 1, _, _, _, by simp only [evC, hb], q⟩

/-- A loop: 'J k' holds before round k, and there are at most m rounds. -/
theorem WC_loop {c : CCode} (J : Nat → Fr → AH → Prop) (m : Nat)
    (step : ∀ k s h, k ≤ m → J k s h → WC T c s h (thenQ (fun s' h' => k < m ∧ J (k + 1) s' h') Q)) (h0 : J 0 s h) : WC T (.loop c) s h Q := by
  have : ∀ d k s h, k + d = m → J k s h → WC T (.loop c) s h Q := by
    intro d
    induction d with
    | zero =>
      intro k s h hk hj
      obtain ⟨n, e1, s1, h1, hb, q⟩ := step k s h (by omega) hj
      cases e1 with
      | nrm => exact absurd q.1 (by omega)
      | exit i => exact ⟨n + 1, _, _, _, by simp only [evC, hb], q⟩
      | ret => exact ⟨n + 1, _, _, _, by simp only [evC, hb], q⟩
    | succ d ih =>
      intro k s h hk hj
      obtain ⟨n, e1, s1, h1, hb, q⟩ := step k s h (by omega) hj
      cases e1 with
      | nrm =>
        obtain ⟨n2, e2, s2, h2, hb2, q2⟩ := ih (k + 1) s1 h1 (by omega) q.2
        refine ⟨max n n2 + 1, e2, s2, h2, ?_, q2⟩
        simp only [evC, evC_le (Nat.le_max_left n n2) hb]
        exact evC_le (Nat.le_max_right n n2) hb2
      | exit i => exact ⟨n + 1, _, _, _, by simp only [evC, hb], q⟩
      | ret => exact ⟨n + 1, _, _, _, by simp only [evC, hb], q⟩
  exact this m 0 s h (by omega) h0

theorem WO_nil {Q : Fr → AH → Prop} : WO T [] s h Q = Q s h := by
  apply propext
  constructor
  · rintro ⟨n, s', h', e, q⟩; simp only [evOps] at e; cases e; exact q
  · intro q; exact ⟨0, _, _, rfl, q⟩

theorem WO_cons {o : COper} {r : List COper} {Q : Fr → AH → Prop} :
    WO T (o :: r) s h Q = if wants o.guard s = true then W1 T o.op s h (fun v h' => WO T r (Fr.put s o.dst v) h' Q) else WO T r (Fr.put s o.dst .undef) h Q := by
  apply propext
  constructor
  · rintro ⟨n, s', h', e, q⟩
    simp only [evOps] at e
    split at e
    · rename_i hw
      rw [if_pos hw]
      cases ho : evOpB (callW T (evC T n)) o.op s h with
      | none => simp [ho] at e
      | some p => rw [ho] at e; exact ⟨n, p.1, p.2, ho, n, s', h', e, q⟩
    · rename_i hw
      rw [if_neg hw]
      exact ⟨n, s', h', e, q⟩
  · intro q
    split at q
    · rename_i hw
      obtain ⟨n, v, h1, ho, m, s', h', e, q⟩ := q
      refine ⟨max n m, s', h', ?_, q⟩
      have h2 : evOps (callW T (evC T n)) [⟨o.dst, o.op, .none⟩] s h = some (Fr.put s o.dst v, h1) := by simp only [evOps, wants, if_true, ho]
      have h3 := evOps_le (Nat.le_max_left n m) h2
      simp only [evOps, wants, if_true] at h3
      simp only [evOps, hw, if_true]
      cases ho2 : evOpB (callW T (evC T (max n m))) o.op s h with
      | none => simp [ho2] at h3
      | some p =>
        rw [ho2] at h3
        have h4 : Fr.put s o.dst p.1 = Fr.put s o.dst v ∧ p.2 = h1 := by simpa using h3
        simp only [h4.1, h4.2]
        exact evOps_le (Nat.le_max_right n m) e
    · rename_i hw
      obtain ⟨m, s', h', e, q⟩ := q
      exact ⟨m, s', h', by simp only [evOps]; rw [if_neg hw]; exact e, q⟩

/-- An op that is not a call. -/
theorem W1_op {o : COp} {Q : PV → AH → Prop} (hp : ∀ call call', evOp call o s h = evOp call' o s h) :
    W1 T o s h Q = opQ (evOpB (fun _ _ _ => .none) o s h) Q := by
  have hpb : ∀ call call', evOpB call o s h = evOpB call' o s h := fun call call' => by unfold evOpB; rw [hp call call']
  apply propext
  constructor
  · rintro ⟨n, v, h', e, q⟩
    rw [hpb _ (fun _ _ _ => .none)] at e
    rw [e]; exact q
  · intro q
    cases e : evOpB (fun _ _ _ => .none) o s h with
    | none => rw [e] at q; exact q.elim
    | some p => rw [e] at q; exact ⟨0, p.1, p.2, by rw [hpb _ (fun _ _ _ => .none)]; exact e, q⟩

theorem W1_call {f : Nat} {as : List Opd} {Q : PV → AH → Prop} : W1 T (.call f as) s h Q = ∃ v h', CE T f (as.map (Opd.val s)) h v h' ∧ Q v h' := by
  apply propext
  constructor
  · rintro ⟨n, v, h', e, q⟩; exact ⟨v, h', ⟨n, e⟩, q⟩
  · rintro ⟨v, h', ⟨n, e⟩, q⟩; exact ⟨n, v, h', e, q⟩

theorem W1_callv {f : Opd} {as : List Opd} {Q : PV → AH → Prop} {g : Nat} {fs cs : List PV} (hf : f.val s = .fn g fs cs) (hg : g < vb) :
    W1 T (.callv f as) s h Q = ∃ v h', CE T g (fs ++ as.map (Opd.val s) ++ cs) h v h' ∧ Q v h' := by
  have key : ∀ n, evOpB (callW T (evC T n)) (.callv f as) s h = callW T (evC T n) g (fs ++ as.map (Opd.val s) ++ cs) h := fun n => by
    show evOp (callW T (evC T n)) (.callv f as) s h = _
    simp only [evOp, hf, if_pos hg]
  apply propext
  constructor
  · rintro ⟨n, v, h', e, q⟩; rw [key] at e; exact ⟨v, h', ⟨n, e⟩, q⟩
  · rintro ⟨v, h', ⟨n, e⟩, q⟩; exact ⟨n, v, h', by rw [key]; exact e, q⟩

theorem W1_callp {g : Nat} {f : Opd} {as : List Opd} {Q : PV → AH → Prop} (hf : f.val s = .fn g [] []) (hg : g < vb) :
    W1 T (.callp g f as) s h Q = ∃ v h', CE T g (as.map (Opd.val s)) h v h' ∧ Q v h' := by
  have key : ∀ n, evOpB (callW T (evC T n)) (.callp g f as) s h = callW T (evC T n) g (as.map (Opd.val s)) h := fun n => by
    show evOp (callW T (evC T n)) (.callp g f as) s h = _
    simp only [evOp, hf]
    rw [if_pos ⟨trivial, hg⟩]
  apply propext
  constructor
  · rintro ⟨n, v, h', e, q⟩; rw [key] at e; exact ⟨v, h', ⟨n, e⟩, q⟩
  · rintro ⟨v, h', ⟨n, e⟩, q⟩; exact ⟨n, v, h', by rw [key]; exact e, q⟩

theorem W1_mov {x : Opd} {Q : PV → AH → Prop} : W1 T (.mov x) s h Q = opQ (evOp (fun _ _ _ => .none) (.mov x) s h) Q := W1_op fun _ _ => rfl
theorem W1_nilchk {x : Opd} {Q : PV → AH → Prop} : W1 T (.nilchk x) s h Q = opQ (evOp (fun _ _ _ => .none) (.nilchk x) s h) Q := W1_op fun _ _ => rfl
theorem W1_pick {c a b : Opd} {Q : PV → AH → Prop} : W1 T (.pick c a b) s h Q = opQ (evOp (fun _ _ _ => .none) (.pick c a b) s h) Q := W1_op fun _ _ => rfl
theorem W1_alloc {zs : List PV} {Q : PV → AH → Prop} : W1 T (.alloc zs) s h Q = opQ (evOp (fun _ _ _ => .none) (.alloc zs) s h) Q := W1_op fun _ _ => rfl
theorem W1_box {x : Opd} {Q : PV → AH → Prop} : W1 T (.box x) s h Q = opQ (evOp (fun _ _ _ => .none) (.box x) s h) Q := W1_op fun _ _ => rfl
theorem W1_boxi {x : Opd} {Q : PV → AH → Prop} : W1 T (.boxi x) s h Q = opQ (evOp (fun _ _ _ => .none) (.boxi x) s h) Q := W1_op fun _ _ => rfl
theorem W1_blit {n : Nat} {zs : List PV} {ps : List (Nat × Nat × Opd)} {Q : PV → AH → Prop} : W1 T (.blit n zs ps) s h Q = opQ (evOp (fun _ _ _ => .none) (.blit n zs ps) s h) Q := W1_op fun _ _ => rfl
theorem W1_clear {z : Nat} {zs : List PV} {x : Opd} {Q : PV → AH → Prop} : W1 T (.clear z zs x) s h Q = opQ (evOpB (fun _ _ _ => .none) (.clear z zs x) s h) Q := W1_op fun _ _ => rfl
theorem W1_bslice {z n : Nat} {zs : List PV} {ps : List (Nat × Nat × Opd)} {Q : PV → AH → Prop} : W1 T (.bslice z n zs ps) s h Q = opQ (evOp (fun _ _ _ => .none) (.bslice z n zs ps) s h) Q := W1_op fun _ _ => rfl
theorem W1_build {zs : List PV} {ps : List (Nat × Nat × Opd)} {Q : PV → AH → Prop} : W1 T (.build zs ps) s h Q = opQ (evOp (fun _ _ _ => .none) (.build zs ps) s h) Q := W1_op fun _ _ => rfl
theorem W1_load {g : Bool} {n : Nat} {a : Opd} {Q : PV → AH → Prop} : W1 T (.load g n a) s h Q = opQ (evOp (fun _ _ _ => .none) (.load g n a) s h) Q := W1_op fun _ _ => rfl
theorem W1_store {n : Nat} {a x : Opd} {Q : PV → AH → Prop} : W1 T (.store n a x) s h Q = opQ (evOpB (fun _ _ _ => .none) (.store n a x) s h) Q := W1_op fun _ _ => rfl
theorem W1_bin {op : BinOp} {x y : Opd} {Q : PV → AH → Prop} : W1 T (.bin op x y) s h Q = opQ (evOp (fun _ _ _ => .none) (.bin op x y) s h) Q := W1_op fun _ _ => rfl
theorem W1_eqb {g : Bool} {x y : Opd} {Q : PV → AH → Prop} : W1 T (.eqb g x y) s h Q = opQ (evOp (fun _ _ _ => .none) (.eqb g x y) s h) Q := W1_op fun _ _ => rfl
theorem W1_eqs {g : Bool} {ks : List Nat} {x y : Opd} {Q : PV → AH → Prop} : W1 T (.eqs g ks x y) s h Q = opQ (evOp (fun _ _ _ => .none) (.eqs g ks x y) s h) Q := W1_op fun _ _ => rfl
theorem W1_isnil {g : Bool} {k : Nat} {x : Opd} {Q : PV → AH → Prop} : W1 T (.isnil g k x) s h Q = opQ (evOp (fun _ _ _ => .none) (.isnil g k x) s h) Q := W1_op fun _ _ => rfl
theorem W1_un {op : UnOp} {x : Opd} {Q : PV → AH → Prop} : W1 T (.un op x) s h Q = opQ (evOp (fun _ _ _ => .none) (.un op x) s h) Q := W1_op fun _ _ => rfl
theorem W1_conv {k : IntKind} {x : Opd} {Q : PV → AH → Prop} : W1 T (.conv k x) s h Q = opQ (evOp (fun _ _ _ => .none) (.conv k x) s h) Q := W1_op fun _ _ => rfl
theorem W1_str {x : Opd} {Q : PV → AH → Prop} : W1 T (.str x) s h Q = opQ (evOp (fun _ _ _ => .none) (.str x) s h) Q := W1_op fun _ _ => rfl
theorem W1_mkfn {f : Nat} {fs cs : List Opd} {Q : PV → AH → Prop} : W1 T (.mkfn f fs cs) s h Q = opQ (evOp (fun _ _ _ => .none) (.mkfn f fs cs) s h) Q := W1_op fun _ _ => rfl
theorem W1_mkmap  {Q : PV → AH → Prop} : W1 T (.mkmap) s h Q = opQ (evOp (fun _ _ _ => .none) (.mkmap) s h) Q := W1_op fun _ _ => rfl
theorem W1_mkslice {z b : Nat} {zs : List PV} {l c : Opd} {Q : PV → AH → Prop} : W1 T (.mkslice z b zs l c) s h Q = opQ (evOp (fun _ _ _ => .none) (.mkslice z b zs l c) s h) Q := W1_op fun _ _ => rfl
theorem W1_slice {z : Nat} {x : Opd} {lo hi mx : Option Opd} {Q : PV → AH → Prop} : W1 T (.slice z x lo hi mx) s h Q = opQ (evOp (fun _ _ _ => .none) (.slice z x lo hi mx) s h) Q := W1_op fun _ _ => rfl
theorem W1_slstr {x : Opd} {lo hi : Option Opd} {Q : PV → AH → Prop} : W1 T (.slstr x lo hi) s h Q = opQ (evOp (fun _ _ _ => .none) (.slstr x lo hi) s h) Q := W1_op fun _ _ => rfl
theorem W1_fld {k : Nat} {x : Opd} {Q : PV → AH → Prop} : W1 T (.fld k x) s h Q = opQ (evOp (fun _ _ _ => .none) (.fld k x) s h) Q := W1_op fun _ _ => rfl
theorem W1_fldv {g : Bool} {k n : Nat} {x : Opd} {Q : PV → AH → Prop} : W1 T (.fldv g k n x) s h Q = opQ (evOp (fun _ _ _ => .none) (.fldv g k n x) s h) Q := W1_op fun _ _ => rfl
theorem W1_idx {z : Nat} {x i : Opd} {Q : PV → AH → Prop} : W1 T (.idx z x i) s h Q = opQ (evOp (fun _ _ _ => .none) (.idx z x i) s h) Q := W1_op fun _ _ => rfl
theorem W1_idxp {l z : Nat} {x i : Opd} {Q : PV → AH → Prop} : W1 T (.idxp l z x i) s h Q = opQ (evOp (fun _ _ _ => .none) (.idxp l z x i) s h) Q := W1_op fun _ _ => rfl
theorem W1_idxv {g : Bool} {l z : Nat} {x i : Opd} {Q : PV → AH → Prop} : W1 T (.idxv g l z x i) s h Q = opQ (evOp (fun _ _ _ => .none) (.idxv g l z x i) s h) Q := W1_op fun _ _ => rfl
theorem W1_idxs {x i : Opd} {Q : PV → AH → Prop} : W1 T (.idxs x i) s h Q = opQ (evOp (fun _ _ _ => .none) (.idxs x i) s h) Q := W1_op fun _ _ => rfl
theorem W1_lkp {kd : Nat} {z : PV} {ok : Bool} {m k : Opd} {Q : PV → AH → Prop} : W1 T (.lkp kd z ok m k) s h Q = opQ (evOp (fun _ _ _ => .none) (.lkp kd z ok m k) s h) Q := W1_op fun _ _ => rfl
theorem W1_upd {kd : Nat} {m k v : Opd} {Q : PV → AH → Prop} : W1 T (.upd kd m k v) s h Q = opQ (evOpB (fun _ _ _ => .none) (.upd kd m k v) s h) Q := W1_op fun _ _ => rfl
theorem W1_ext {x : Opd} {i : Nat} {Q : PV → AH → Prop} : W1 T (.ext x i) s h Q = opQ (evOp (fun _ _ _ => .none) (.ext x i) s h) Q := W1_op fun _ _ => rfl
theorem W1_len {k : Nat} {x : Opd} {Q : PV → AH → Prop} : W1 T (.len k x) s h Q = opQ (evOp (fun _ _ _ => .none) (.len k x) s h) Q := W1_op fun _ _ => rfl
theorem W1_app {z b : Nat} {x y : Opd} {Q : PV → AH → Prop} : W1 T (.app z b x y) s h Q = opQ (evOpB (fun _ _ _ => .none) (.app z b x y) s h) Q := W1_op fun _ _ => rfl
theorem W1_minmax {g : Bool} {xs : List Opd} {Q : PV → AH → Prop} : W1 T (.minmax g xs) s h Q = opQ (evOp (fun _ _ _ => .none) (.minmax g xs) s h) Q := W1_op fun _ _ => rfl
theorem W1_del {kd : Nat} {m k : Opd} {Q : PV → AH → Prop} : W1 T (.del kd m k) s h Q = opQ (evOpB (fun _ _ _ => .none) (.del kd m k) s h) Q := W1_op fun _ _ => rfl

theorem CE_prim {f : Nat} {as : List PV} {v : PV} {h' : AH} {p : Bool} {g : List PV → AH → Option (PV × AH)} (hf : T f = some (.prim p g)) (hg : g as h = some (v, h')) : CE T f as h v h' :=
  ⟨0, by unfold callW; rw [hf]; exact hg⟩

/-- A call in the caller's heap. -/
theorem CE_shared {f : Nat} {as : List PV} {v : PV} {h' : AH} {c : CFun} (hf : T f = some (.code c)) (hp : c.pure = false) (hx : c.ext = false)
    (hw : WC T c.body (initFr as) h (fun ex s' h1 => (ex = .nrm ∨ ex = .ret) ∧ h1 = h' ∧ resOf c.res s' h' = some v)) : CE T f as h v h' := by
  obtain ⟨n, ex, s', h1, e, hx2, rfl, hr⟩ := hw
  refine ⟨n, ?_⟩
  unfold callW
  rw [hf]
  simp only [hp, hx, Bool.false_eq_true, if_false, e]
  rcases hx2 with rfl | rfl <;> simp [hr, hx]

/-- A call in the caller's heap that writes only what it made. -/
theorem CE_ext {f : Nat} {as : List PV} {v : PV} {h' : AH} {c : CFun} (hf : T f = some (.code c)) (hp : c.pure = false) (hx : c.ext = true)
    (hw : WC T c.body (initFr as) h.bar (fun ex s' h1 => (ex = .nrm ∨ ex = .ret) ∧ h.unbar h1 = h' ∧ resOf c.res s' h1 = some v)) : CE T f as h v h' := by
  obtain ⟨n, ex, s', h1, e, hx', rfl, hr⟩ := hw
  refine ⟨n, ?_⟩
  unfold callW
  rw [hf]
  simp only [hp, hx, Bool.false_eq_true, if_false, if_true, e]
  rcases hx' with rfl | rfl <;> simp [hr]

/-- A pure call, its arguments immutable already. -/
theorem CE_pure {f : Nat} {as as' : List PV} {v : PV} {c : CFun} (hf : T f = some (.code c)) (hp : c.pure = true)
    (has : allO (snap h snapDepth) as = some as')
    (hw : WC T c.body (initFr as') AH.zero (fun ex s' h1 => (ex = .nrm ∨ ex = .ret) ∧ ∃ r0, resOf c.res s' h1 = some r0 ∧ snap h1 snapDepth r0 = some v ∧ (as.any (own snapDepth) = false ∨ noImm h1 snapDepth r0 = true))) : CE T f as h v h := by
  obtain ⟨n, ex, s', h1, e, hx, r0, hr, hs, ho⟩ := hw
  refine ⟨n, ?_⟩
  unfold callW
  rw [hf]
  simp only [hp, if_true, has, e]
  have : (as.any (own snapDepth) && !noImm h1 snapDepth r0) = false := by rcases ho with ho | ho <;> simp [ho]
  rcases hx with rfl | rfl <;> simp [pureRes, hr, this, hs]
end
end Go.Ev

/- Shapes: the arguments of a statement as plain data, and the abstract machine's values for them. -/
set_option linter.unusedVariables false
set_option linter.unusedSimpArgs false
namespace Go.Ev

inductive Sh where
  | int (k : IntKind)
  | bool
  | str
  | sl (e : Sh)
  | unit
  | pair (a b : Sh)

def Sh.size : Sh → Nat
  | .unit => 0
  | .pair a b => a.size + b.size
  | _ => 1

def Sh.den : Sh → Type
  | .int _ => Int
  | .bool => Bool
  | .str => ByteArray
  | .sl e => List e.den
  | .unit => Unit
  | .pair a b => a.den × b.den

def Sh.pv : (s : Sh) → s.den → List PV
  | .int k, (n : Int) => [.int k n]
  | .bool, (b : Bool) => [.bool b]
  | .str, (b : ByteArray) => [.str b]
  | .sl e, (l : List e.den) => [.sl l.length (l.map e.pv).flatten]
  | .unit, _ => []
  | .pair a b, (x : a.den × b.den) => a.pv x.1 ++ b.pv x.2

def Sh.ok : (s : Sh) → s.den → Prop
  | .int k, (n : Int) => k.min ≤ n ∧ n ≤ k.max
  | .bool, _ => True
  | .str, (b : ByteArray) => b.size ≤ maxLen
  | .sl e, (l : List e.den) => l.length ≤ maxLen ∧ ∀ x ∈ l, e.ok x
  | .unit, _ => True
  | .pair a b, (x : a.den × b.den) => a.ok x.1 ∧ b.ok x.2

theorem Sh.pv_len : ∀ (s : Sh) (d : s.den), (s.pv d).length = s.size
  | .int _, _ => rfl
  | .bool, _ => rfl
  | .str, _ => rfl
  | .sl _, _ => rfl
  | .unit, _ => rfl
  | .pair a b, x => by simp only [Sh.pv, List.length_append, Sh.size, a.pv_len, b.pv_len]

theorem Sh.pv_one : ∀ (s : Sh) (d : s.den), ∀ x ∈ s.pv d, x.one = true
  | .int _, _ => by intro x hx; cases List.mem_singleton.1 hx; rfl
  | .bool, _ => by intro x hx; cases List.mem_singleton.1 hx; rfl
  | .str, _ => by intro x hx; cases List.mem_singleton.1 hx; rfl
  | .sl _, _ => by intro x hx; cases List.mem_singleton.1 hx; rfl
  | .unit, _ => by intro x hx; cases hx
  | .pair a b, y => by
    intro x hx
    rcases List.mem_append.1 hx with h | h
    · exact a.pv_one _ x h
    · exact b.pv_one _ x h

def shFs (r : TypeId → Option Sh) (P : Program) : Nat → List Field → Option Sh
  | _, [] => some .unit
  | off, f :: fs => if f.offset = off then match r f.type with
    | some s => if s.size = P.cellsOf f.type then match shFs r P (off + s.size) fs with
      | some s' => some (.pair s s')
      | none => none
      else none
    | none => none
    else none

def shT (P : Program) : Nat → TypeId → Option Sh
  | 0, _ => none
  | n + 1, t => match P.underlying t with
    | some .bool => some .bool
    | some (.int k) => some (.int k)
    | some .string => some .str
    | some (.slice e) => match shT P n e with
      | some s => if s.size = P.cellsOf e then some (.sl s) else none
      | none => none
    | some (.struct fs) => match shFs (shT P n) P 0 fs.toList with
      | some s => if s.size = P.cellsOf t then some s else none
      | none => none
    | _ => none

theorem flat_len {α β : Type} {f : α → List β} {z : Nat} (hf : ∀ x, (f x).length = z) (l : List α) : (l.map f).flatten.length = l.length * z := by
  induction l with
  | nil => simp
  | cons a l ih => simp [ih, hf, Nat.succ_mul, Nat.add_comm]

theorem flat_get {α β : Type} {f : α → List β} {z : Nat} (hf : ∀ x, (f x).length = z) : ∀ (l : List α) (i k : Nat) (hi : i < l.length) (hk : k < z),
    (l.map f).flatten[i * z + k]? = (f l[i])[k]? := by
  intro l
  induction l with
  | nil => intro i k hi; simp at hi
  | cons a l ih =>
    intro i k hi hk
    rw [List.map_cons, List.flatten_cons]
    cases i with
    | zero => simp only [Nat.zero_mul, Nat.zero_add]; rw [List.getElem?_append_left (by rw [hf]; exact hk)]; rfl
    | succ i =>
      rw [List.getElem?_append_right (by rw [hf, Nat.succ_mul]; omega), hf, show (i + 1) * z + k - z = i * z + k by rw [Nat.succ_mul]; omega]
      rw [ih i k (by simpa using hi) hk]
      rfl

section
variable {H : Type} {enc : TypeId × Value → H} {P : Program} {w : World} {base : Nat} {sp : Nat → Bool} {held : Bool} {ρ : Nat → Option (Nat × Nat)} {I : Nat → Prop}

def CR (ρ : Nat → Option (Nat × Nat)) (I : Nat → Prop) (w : World) (cs : List Value) (vs : List PV) : Prop :=
  cs.length = vs.length ∧ ∀ j (hj : j < vs.length), VR ρ I w (cs.getD j undef) vs[j]

theorem CR_one {u : Value} {v : PV} (h : VR ρ I w u v) : CR ρ I w [u] [v] :=
  ⟨rfl, fun j hj => by
    have : j = 0 := by simpa using hj
    subst this
    exact h⟩

theorem CR_append {a b : List Value} {x y : List PV} (h1 : CR ρ I w a x) (h2 : CR ρ I w b y) : CR ρ I w (a ++ b) (x ++ y) := by
  refine ⟨by simp [h1.1, h2.1], fun j hj => ?_⟩
  rw [List.getElem_append, List.getD_eq_getElem?_getD, List.getElem?_append]
  by_cases h : j < x.length
  · rw [dif_pos h, if_pos (by rw [h1.1]; exact h), ← List.getD_eq_getElem?_getD]
    exact h1.2 j h
  · rw [dif_neg h, if_neg (by rw [h1.1]; exact h), ← List.getD_eq_getElem?_getD, h1.1]
    exact h2.2 _ _

theorem mapM_cons_some {α β : Type} {f : α → Option β} {a : α} {l : List α} {r : List β} (h : (a :: l).mapM f = some r) : ∃ y ys, f a = some y ∧ l.mapM f = some ys ∧ r = y :: ys := by
  rw [List.mapM_cons] at h
  cases ha : f a with
  | none => simp [ha] at h
  | some y =>
    cases hl : l.mapM f with
    | none => simp [ha, hl] at h
    | some ys => simp [ha, hl] at h; exact ⟨y, ys, rfl, rfl, h.symm⟩

theorem shFs_sound {r : TypeId → List Value → Option (DataW H × List MemPlace)} {sh : TypeId → Option Sh}
    (ih : ∀ t cs x s, r t cs = some x → sh t = some s → ∃ d : s.den, s.ok d ∧ CR ρ I w cs (s.pv d)) (cs : List Value) :
    ∀ (fs : List Field) (off : Nat) (s : Sh) (xs : List (DataW H × List MemPlace)), shFs sh P off fs = some s → (fs.mapM fun f => r f.type ((cs.drop f.offset).take (P.cellsOf f.type))) = some xs →
      ∃ d : s.den, s.ok d ∧ CR ρ I w ((cs.drop off).take s.size) (s.pv d) := by
  intro fs
  induction fs with
  | nil =>
    intro off s xs h _
    simp only [shFs] at h
    cases h
    exact ⟨(), trivial, by simp [Sh.size, Sh.pv, CR]⟩
  | cons f fs ihf =>
    intro off s xs h hm
    obtain ⟨y, ys, hy, hys, rfl⟩ := mapM_cons_some hm
    simp only [shFs] at h
    split at h
    · rename_i hoff
      split at h
      · rename_i s1 hs1
        split at h
        · rename_i hz
          split at h
          · rename_i s2 hs2
            cases h
            obtain ⟨d1, ho1, hc1⟩ := ih _ _ _ _ hy hs1
            obtain ⟨d2, ho2, hc2⟩ := ihf _ _ _ hs2 hys
            refine ⟨(d1, d2), ⟨ho1, ho2⟩, ?_⟩
            rw [← hz, hoff] at hc1
            have : (cs.drop off).take (s1.size + s2.size) = (cs.drop off).take s1.size ++ (cs.drop (off + s1.size)).take s2.size := by
              rw [List.take_add, List.drop_drop]
            show CR ρ I w ((cs.drop off).take (s1.size + s2.size)) _
            rw [this]
            exact CR_append hc1 hc2
          · cases h
        · cases h
      · cases h
    · cases h

theorem cell_spot {a : Addr} {x : Value} (h : w.cell? a = some x) : a = ⟨a.block, a.off, none⟩ := by
  unfold World.cell? at h
  split at h
  · split at h
    · cases h
    · rename_i hs
      cases hsp : a.spot with
      | none => cases a; simp_all
      | some s => simp [hsp] at hs
  · cases h

theorem add_none (b o n : Nat) : Addr.add ⟨b, o, none⟩ n = ⟨b, o + n, none⟩ := by
  unfold Addr.add
  split
  · rename_i h; simp [h]
  · rfl

/-- A slice's elements, read one by one, make one slice of the abstract machine. -/
theorem sl_sound {e : Sh} {a : Addr} {len cap : Nat} (hlc : len ≤ cap) (hI : ∀ b, base ≤ b → b < w.heap.size → I b)
    (hel : ∀ i, i < len → ∃ cs, w.cells? base (a.add (i * e.size)) e.size = some cs ∧ ∃ d : e.den, e.ok d ∧ CR ρ I w cs (e.pv d)) :
    ∃ l : List e.den, l.length = len ∧ (∀ x ∈ l, e.ok x) ∧ VR ρ I w (.slice (some a) len cap) (.sl len (l.map e.pv).flatten) := by
  have hch : ∃ l : List e.den, l.length = len ∧ ∀ i (hi : i < l.length), e.ok l[i] ∧ ∃ cs, w.cells? base (a.add (i * e.size)) e.size = some cs ∧ CR ρ I w cs (e.pv l[i]) := by
    clear hlc
    induction len with
    | zero => exact ⟨[], rfl, fun i hi => absurd hi (by simp)⟩
    | succ n ih =>
      obtain ⟨l, hl, hp⟩ := ih fun i hi => hel i (by omega)
      obtain ⟨cs, h1, d, h2, h3⟩ := hel n (by omega)
      refine ⟨l ++ [d], by simp [hl], fun i hi => ?_⟩
      by_cases h : i < l.length
      · rw [List.getElem_append_left h]; exact hp i h
      · have : i = n := by simp at hi; omega
        subst this
        rw [List.getElem_append_right (by omega)]
        simp only [hl, Nat.sub_self, List.getElem_cons_zero]
        exact ⟨h2, cs, h1, h3⟩
  obtain ⟨l, hl, hp⟩ := hch
  refine ⟨l, hl, fun x hx => ?_, ?_⟩
  · obtain ⟨i, hi, rfl⟩ := List.getElem_of_mem hx; exact (hp i hi).1
  have hlen : (l.map e.pv).flatten.length = len * e.size := by rw [flat_len (e.pv_len), hl]
  by_cases hne : (l.map e.pv).flatten = []
  · rw [hne]
    exact .sl (fun _ => undef) hlc (fun h => absurd rfl h) (fun j hj => absurd hj (by simp)) (by simp)
  have hpos : 0 < len * e.size := by rw [← hlen]; exact List.length_pos_iff.2 hne
  have hz : 0 < e.size := Nat.pos_of_mul_pos_left hpos
  have hn : 0 < len := Nat.pos_of_mul_pos_right hpos
  obtain ⟨_, cs0, h0, h00⟩ := hp 0 (by omega)
  have ha : a = ⟨a.block, a.off, none⟩ ∧ I a.block := by
    have hb : a.block < w.heap.size := by
      have := World.cells?_block h0 hz
      unfold Addr.add at this
      split at this <;> exact this
    obtain ⟨h1, h2, h3⟩ := World.cells?_some h0
    have h4 := h3 0 hz
    simp only [Nat.zero_mul] at h4 h1
    have e1 : (a.add 0).add 0 = a := by simp [Addr.add]
    have e2 : a.add 0 = a := by simp [Addr.add]
    rw [e1] at h4
    rw [e2] at h1
    refine ⟨?_, hI _ h1 hb⟩
    have : cs0[0]? = some (cs0[0]'(by omega)) := List.getElem?_eq_getElem _
    rw [this] at h4
    exact cell_spot h4
  obtain ⟨ha, hIb⟩ := ha
  have key : ∀ j (hj : j < (l.map e.pv).flatten.length), ∃ u, w.cell? ⟨a.block, a.off + j, none⟩ = some u ∧ VR ρ I w u (l.map e.pv).flatten[j] := by
    intro j hj
    have hi : j / e.size < l.length := by rw [hl]; exact Nat.div_lt_of_lt_mul (by rw [Nat.mul_comm]; omega)
    have hk : j % e.size < e.size := Nat.mod_lt _ hz
    have hjj : j / e.size * e.size + j % e.size = j := by rw [Nat.mul_comm]; exact Nat.div_add_mod j e.size
    obtain ⟨_, cs, h1, h2⟩ := hp _ hi
    obtain ⟨_, h4, h5⟩ := World.cells?_some h1
    have h6 := h5 _ hk
    rw [ha, add_none, add_none, Nat.add_assoc, hjj] at h6
    have hk' : j % e.size < cs.length := by omega
    rw [List.getElem?_eq_getElem hk'] at h6
    refine ⟨_, h6, ?_⟩
    have h7 := flat_get (e.pv_len) l (j / e.size) (j % e.size) hi hk
    rw [hjj, List.getElem?_eq_getElem hj] at h7
    have hk2 : j % e.size < (e.pv l[j / e.size]).length := by rw [e.pv_len]; exact hk
    rw [List.getElem?_eq_getElem hk2] at h7
    have h8 := h2.2 _ hk2
    rw [List.getD_eq_getElem?_getD, List.getElem?_eq_getElem hk'] at h8
    rw [Option.some.inj h7]
    exact h8
  refine .sl (fun j => (w.cell? ⟨a.block, a.off + j, none⟩).getD undef) hlc (fun _ => ⟨a.block, a.off, by rw [← ha], hIb, fun j hj => ?_⟩) (fun j hj => ?_) ?_
  · obtain ⟨u, h1, _⟩ := key j hj; rw [h1]; rfl
  · obtain ⟨u, h1, h2⟩ := key j hj; rw [h1]; exact h2
  · intro x hx
    obtain ⟨y, hy, hxy⟩ := List.mem_flatten.1 hx
    obtain ⟨d, _, rfl⟩ := List.mem_map.1 hy
    exact e.pv_one d x hxy

theorem trod_sh (hI : ∀ b, base ≤ b → b < w.heap.size → I b) : ∀ (n : Nat) (t : TypeId) (cs : List Value) (x : DataW H × List MemPlace), DataW.trod enc P w base sp held n t cs = some x →
    ∀ (m : Nat) (s : Sh), shT P m t = some s → ∃ d : s.den, s.ok d ∧ CR ρ I w cs (s.pv d) := by
  intro n
  induction n with
  | zero => intro t cs x h; simp [DataW.trod] at h
  | succ n ih =>
    intro t cs x h m s hs
    cases m with
    | zero => cases hs
    | succ m =>
    rw [DataW.trod_step] at h
    simp only [shT] at hs
    split at hs
    · rename_i hu
      cases hs
      unfold DataW.trodStep at h
      rw [hu] at h
      split at h
      all_goals first | cases h; done | skip
      all_goals first | (rename_i e1 _; cases e1; done) | skip
      all_goals first | exact ⟨_, trivial, CR_one (.bool _)⟩ | (rename_i e1; cases e1; done) | skip
    · rename_i k hu
      cases hs
      unfold DataW.trodStep at h
      rw [hu] at h
      split at h <;> rename_i e1 <;> (try cases e1)
      · split at h
        · rename_i hc
          obtain ⟨rfl, hw⟩ := hc
          simp only [Lit.wf, Bool.and_eq_true, decide_eq_true_eq] at hw
          exact ⟨_, hw, CR_one (.int _ _)⟩
        · cases h
      all_goals cases h
    · rename_i hu
      cases hs
      unfold DataW.trodStep at h
      rw [hu] at h
      split at h <;> rename_i e1 <;> (try cases e1)
      · split at h
        · rename_i hc
          exact ⟨_, hc, CR_one (.str _)⟩
        · cases h
      all_goals cases h
    · rename_i e hu
      split at hs
      · rename_i s1 hs1
        split at hs
        · rename_i hz
          cases hs
          unfold DataW.trodStep at h
          rw [hu] at h
          split at h <;> rename_i e1 <;> (try cases e1)
          · exact ⟨([] : List s1.den), ⟨Nat.zero_le _, fun x hx => by cases hx⟩, CR_one (.sl (fun _ => undef) (Nat.le_refl 0) (fun h => absurd rfl h) (fun j hj => absurd hj (by simp)) (by simp))⟩
          · simp only at h
            split at h
            · rename_i hc
              simp only [Option.map_eq_some_iff, Option.bind_eq_some_iff] at h
              obtain ⟨elems, he, rest, hrest, rfl⟩ := h
              rw [← hz] at he
              obtain ⟨l, h1, h2, h3⟩ := sl_sound (ρ := ρ) (e := s1) hc.2.1 hI fun i hi => by
                have hlen := mapM_some_length he
                have hg := mapM_some_get he i i (by simp [hi])
                have hi' : i < elems.length := by rw [hlen]; simpa using hi
                rw [List.getElem?_eq_getElem hi', Option.bind_eq_some_iff] at hg
                obtain ⟨cs, hcs, hr⟩ := hg
                exact ⟨cs, hcs, ih _ _ _ hr m s1 hs1⟩
              refine ⟨l, ⟨by rw [h1]; omega, h2⟩, ?_⟩
              show CR ρ I w _ [PV.sl l.length (l.map s1.pv).flatten]
              rw [h1]
              exact CR_one h3
            · cases h
          all_goals cases h
        · cases hs
      · cases hs
    · rename_i fs hu
      split at hs
      · rename_i s1 hs1
        split at hs
        · rename_i hz
          cases hs
          unfold DataW.trodStep at h
          rw [hu] at h
          change (if cs.length = P.cellsOf t then (fs.toList.mapM fun f => DataW.trod enc P w base sp held n f.type ((cs.drop f.offset).take (P.cellsOf f.type))).map fun xs => (DataW.agg (xs.map (·.1)), xs.flatMap (·.2)) else none) = some x at h
          split at h
          · rename_i hc
            simp only [Option.map_eq_some_iff] at h
            obtain ⟨xs, hx, rfl⟩ := h
            obtain ⟨d, h1, h2⟩ := shFs_sound (ρ := ρ) (I := I) (w := w) (fun t cs x s hr hsh => ih t cs x hr m s hsh) cs _ _ _ _ hs1 hx
            refine ⟨d, h1, ?_⟩
            rw [List.drop_zero, hz, ← hc, List.take_length] at h2
            exact h2
          · cases h
        · cases hs
      · cases hs
    · cases hs
end
end Go.Ev

/- From the evaluator's answer to a call's contract, and a statement's arguments as the abstract machine's values. -/
set_option linter.unusedVariables false
set_option linter.unusedSimpArgs false
namespace Go.Ev
section
variable {H : Type} {enc : TypeId × Value → H} {P : Program} {W : World} {base : Nat} {pu : Nat → Bool} {T : Nat → Option Fun}

def R0 : Nat → Option (Nat × Nat) := fun _ => none

theorem calls_true (ht : TOk P pu T) {f : Nat} {args : Array Value} {as : List PV} {h' : AH} (hv : VRL R0 (fun b => b < W.heap.size) W args as)
    (he : CE T f as AH.zero (.bool true) h') : Calls P (rl f) args W fun e W' => e = .returned (.bool true) ∧ RowKit.Below W.heap.size W W' := by
  obtain ⟨n, he⟩ := he
  have hs : SR R0 (fun b => b < W.heap.size) AH.zero W :=
    ⟨fun i B hB => (by cases hB), fun i j b o o' hi => absurd rfl hi, fun i b o hi => absurd rfl hi, fun i x hx => (by cases hx), fun b hb => hb⟩
  refine ((callOk ht n f as AH.zero _ h' he).2 R0 _ W args hs hv).mono ?_
  rintro e W' ⟨ρ', I', u, rfl, st, _, hu⟩
  cases hu
  exact ⟨rfl, st.below⟩

theorem arg_struct {t : TypeId} {fs : Array Field} {v : Value} {d : DataW H} {p : List MemPlace} {sp : Nat → Bool} {held : Bool} (hu : P.underlying t = some (.struct fs)) {m : Nat} {s : Sh} (hs : shT P m t = some s)
    (hv : Value.okWide P W .any base t v) (ht : DataW.Trod enc P W 0 sp held t v d p) : ∃ x : s.den, s.ok x ∧ VR R0 (fun b => b < W.heap.size) W v (.agg (s.pv x)) := by
  simp only [Value.okWide, hu] at hv
  obtain ⟨cs, rfl, hsz, _⟩ := hv
  obtain ⟨n, hn⟩ := ht
  obtain ⟨x, hx, hc⟩ := trod_sh (ρ := R0) (I := fun b => b < W.heap.size) (fun b _ hb => hb) n t _ _ hn m s hs
  refine ⟨x, hx, .agg hc.1 (fun j hj => ?_) (s.pv_one x)⟩
  have := hc.2 j hj
  simpa [Value.cells, Array.getD_eq_getD_getElem?, List.getD_eq_getElem?_getD] using this

theorem arg_one {t : TypeId} {v : Value} {d : DataW H} {p : List MemPlace} {sp : Nat → Bool} {held : Bool} {m : Nat} {s : Sh} (hs : shT P m t = some s)
    (hv : v.cells = #[v]) (ht : DataW.Trod enc P W 0 sp held t v d p) : ∃ x : s.den, s.ok x ∧ CR R0 (fun b => b < W.heap.size) W [v] (s.pv x) := by
  obtain ⟨n, hn⟩ := ht
  rw [hv] at hn
  exact trod_sh (ρ := R0) (I := fun b => b < W.heap.size) (fun b _ hb => hb) n t _ _ hn m s hs

theorem CR_head {u : Value} {v : PV} {ρ : Nat → Option (Nat × Nat)} {I : Nat → Prop} (h : CR ρ I W [u] [v]) : VR ρ I W u v := h.2 0 (by simp)

theorem VRL_one {u : Value} {v : PV} {ρ : Nat → Option (Nat × Nat)} {I : Nat → Prop} (h : VR ρ I W u v) : VRL ρ I W #[u] [v] :=
  ⟨rfl, fun j hj => by
    have : j = 0 := by simpa using hj
    subst this
    exact h⟩

theorem VRL_two {u1 u2 : Value} {v1 v2 : PV} {ρ : Nat → Option (Nat × Nat)} {I : Nat → Prop} (h1 : VR ρ I W u1 v1) (h2 : VR ρ I W u2 v2) : VRL ρ I W #[u1, u2] [v1, v2] :=
  ⟨rfl, fun j hj => by
    have : j = 0 ∨ j = 1 := by simp at hj; omega
    rcases this with rfl | rfl
    · exact h1
    · exact h2⟩
end
end Go.Ev

/- Library functions by their contracts: the sort of whole numbers. -/
set_option linter.unusedVariables false
set_option linter.unusedSimpArgs false
namespace Go.Ev
open Go.Sort Go.RowKit

def insI (x : Int) : List Int → List Int
  | [] => [x]
  | y :: r => if x ≤ y then x :: y :: r else y :: insI x r
def sortI : List Int → List Int
  | [] => []
  | x :: r => insI x (sortI r)

theorem insI_perm (x : Int) : ∀ l : List Int, (insI x l).Perm (x :: l)
  | [] => List.Perm.refl _
  | y :: r => by
    unfold insI
    split
    · exact List.Perm.refl _
    · exact ((insI_perm x r).cons y).trans (List.Perm.swap x y r)
theorem sortI_perm : ∀ l : List Int, (sortI l).Perm l
  | [] => List.Perm.refl _
  | x :: r => (insI_perm x _).trans ((sortI_perm r).cons x)
theorem insI_sorted (x : Int) : ∀ l : List Int, l.Pairwise (· ≤ ·) → (insI x l).Pairwise (· ≤ ·)
  | [], _ => by simp [insI]
  | y :: r, h => by
    unfold insI
    have h1 := List.pairwise_cons.1 h
    split
    · rename_i hxy
      refine List.pairwise_cons.2 ⟨fun a ha => ?_, h⟩
      rcases List.mem_cons.1 ha with rfl | ha
      · exact hxy
      · exact Int.le_trans hxy (h1.1 a ha)
    · rename_i hxy
      refine List.pairwise_cons.2 ⟨fun a ha => ?_, insI_sorted x r h1.2⟩
      rcases List.mem_cons.1 ((insI_perm x r).mem_iff.1 ha) with rfl | ha
      · omega
      · exact h1.1 a ha
theorem sortI_sorted : ∀ l : List Int, (sortI l).Pairwise (· ≤ ·)
  | [] => List.Pairwise.nil
  | x :: r => insI_sorted x _ (sortI_sorted r)

theorem sorted_unique : ∀ {a b : List Int}, a.Perm b → a.Pairwise (· ≤ ·) → b.Pairwise (· ≤ ·) → a = b
  | [], b, p, _, _ => by rw [List.nil_perm.1 p]
  | x :: a, b, p, ha, hb => by
    cases b with
    | nil => exact absurd p.length_eq (by simp)
    | cons y b =>
      have h1 := List.pairwise_cons.1 ha
      have h2 := List.pairwise_cons.1 hb
      have hxy : x ≤ y := by
        rcases List.mem_cons.1 (p.symm.mem_iff.1 (List.mem_cons_self (a := y) (l := b))) with e | e
        · omega
        · exact h1.1 y e
      have hyx : y ≤ x := by
        rcases List.mem_cons.1 (p.mem_iff.1 (List.mem_cons_self (a := x) (l := a))) with e | e
        · omega
        · exact h2.1 x e
      obtain rfl : x = y := by omega
      rw [sorted_unique (List.Perm.cons_inv p) h1.2 h2.2]

theorem sortI_eq (l : List Int) : (l.mergeSort fun x y => decide (x ≤ y)) = sortI l := by
  refine sorted_unique ((List.mergeSort_perm l _).trans (sortI_perm l).symm) ?_ (sortI_sorted l)
  have := List.pairwise_mergeSort (le := fun x y : Int => decide (x ≤ y)) (fun a b c h1 h2 => by simp at *; omega) (fun a b => by simp; omega) l
  exact this.imp fun h => by simpa using h

theorem insI_length (x : Int) (l : List Int) : (insI x l).length = l.length + 1 := by rw [(insI_perm x l).length_eq]; rfl
theorem sortI_length (l : List Int) : (sortI l).length = l.length := (sortI_perm l).length_eq

def ints : List PV → Option (List Int)
  | [] => some []
  | .int .i64 n :: r => match ints r with
    | some l => some (n :: l)
    | none => none
  | _ :: _ => none

theorem ints_eq : ∀ {cs : List PV} {l : List Int}, ints cs = some l → cs = l.map fun m => .int .i64 m
  | [], l, e => by cases e; rfl
  | c :: r, l, e => by
    cases c with
    | int k n =>
      cases k with
      | i64 =>
        simp only [ints] at e
        split at e
        · rename_i l' hl
          cases e
          rw [ints_eq hl]; rfl
        · cases e
      | _ => simp [ints] at e
    | _ => simp [ints] at e

theorem ints_map (l : List Int) : ints (l.map fun m => .int .i64 m) = some l := by
  induction l with
  | nil => rfl
  | cons a l ih => simp [ints, ih]

def primSort (as : List PV) (h : AH) : Option (PV × AH) :=
  match as with
  | [.emp] => some (.tup [], h)
  | [.rf z i o n] => if n = 0 then some (.tup [], h) else if h.lo ≤ i then match h.row i with
    | some cs => match ints ((cs.drop o).take n) with
      | some zs => if z = 1 ∧ o + n ≤ cs.length ∧ n < 4611686018427387904 then some (.tup [], h.set i (.cells (splice cs o ((sortI zs).map fun m => .int .i64 m)))) else none
      | none => none
    | none => none
    else none
  | _ => none

section
variable {P : Program} {f : Nat}

theorem row_some {h : AH} {i : Nat} {cs : List PV} (e : h.row i = some cs) : h.blk i = some (.cells cs) := by
  unfold AH.row at e
  split at e
  · rename_i cs' hb; cases e; exact hb
  · cases e

theorem VRL_sing {ρ : Nat → Option (Nat × Nat)} {I : Nat → Prop} {w : World} {us : Array Value} {v : PV} (hv : VRL ρ I w us [v]) : ∃ u, us = #[u] ∧ VR ρ I w u v := by
  obtain ⟨l⟩ := us
  obtain ⟨h1, h2⟩ := hv
  match l, h1, h2 with
  | [u], _, h2 => exact ⟨u, rfl, h2 0 (by simp)⟩

theorem primSort_ok (hc : Callable P (rl f))
    (h0 : ∀ (p : Option Addr) (cap : Nat) (w : World), Calls P (rl f) #[.slice p 0 cap] w fun e w' => e = .returned (.tuple #[]) ∧ w' = w)
    (h1 : ∀ (blk off cap : Nat) (zs : List Int) (w : World), Holds (Value.int .i64) w blk off zs.toArray → blk < w.heap.size → zs.length < 4611686018427387904 →
      Calls P (rl f) #[.slice (some ⟨blk, off, none⟩) zs.length cap] w fun e w' =>
        e = .returned (.tuple #[]) ∧ ∃ n os, w' = grow (putRow (Value.int .i64) (Sort.ahead w n) blk off (zs.mergeSort fun x y => decide (x ≤ y)).toArray) os) :
    PrimOk P false f primSort := by
  refine ⟨hc, fun as h r h' e ρ I w us hs hv => ?_, fun as h r h' hw e => ?_, fun as h r h' e => ?_, fun q => by cases q⟩
  · unfold primSort at e
    split at e
    · cases e
      obtain ⟨u, rfl, h2⟩ := VRL_sing hv
      cases h2
      refine (h0 _ _ w).mono fun e w' ⟨he, hw⟩ => ?_
      subst he hw
      exact ⟨ρ, I, _, rfl, St.refl, hs, .tup rfl fun j hj => absurd hj (by simp)⟩
    · rename_i z i o n
      obtain ⟨u, rfl, h2⟩ := VRL_sing hv
      split at e
      · rename_i hn
        subst hn
        cases e
        have hq : ∃ p cap, u = .slice p 0 cap := by cases h2 <;> exact ⟨_, _, rfl⟩
        obtain ⟨p, cap, rfl⟩ := hq
        refine (h0 _ _ w).mono fun e w' ⟨he, hw⟩ => ?_
        subst he hw
        exact ⟨ρ, I, _, rfl, St.refl, hs, .tup rfl fun j hj => absurd hj (by simp)⟩
      · rename_i hn
        split at e
        case isFalse => cases e
        split at e
        · rename_i cs hrow
          split at e
          · rename_i zs hz
            split at e
            · rename_i hcnd
              obtain ⟨rfl, hlen, hlim⟩ := hcnd
              cases e
              have hblk := row_some hrow
              have hzs := ints_eq hz
              have hzl : zs.length = n := by
                have := congrArg List.length hzs
                simp at this
                omega
              cases h2 with
              | rf0 => exact absurd rfl hn
              | rf hρ hnc hw hcs =>
                rename_i b o' c' C T fz
                obtain ⟨b2, o2, g2, C2, T2, g3, g4, g5, g6⟩ := hs.live i _ hblk
                rw [hρ] at g2
                cases g2
                rw [hw] at g3
                cases g3
                have hb : b < w.heap.size := by
                  rcases Nat.lt_or_ge b w.heap.size with q | q
                  · exact q
                  · rw [Array.getElem?_eq_none q] at hw; cases hw
                have hcell : ∀ j, j < zs.length → C[o' + o + j]? = some (.int .i64 (zs.getD j 0)) := by
                  intro j hj
                  have hoj : o + j < cs.length := by omega
                  have q := g5 (o + j) hoj
                  have e1 : cs[o + j] = .int .i64 (zs.getD j 0) := by
                    have e2 : ((cs.drop o).take n)[j]? = (zs.map fun m => PV.int .i64 m)[j]? := by rw [← hzs]
                    rw [List.getElem?_take, if_pos (by omega), List.getElem?_drop, List.getElem?_map, List.getElem?_eq_getElem hoj, List.getElem?_eq_getElem hj] at e2
                    rw [List.getD_eq_getElem?_getD, List.getElem?_eq_getElem hj]
                    simpa using e2
                  rw [e1] at q
                  have hsz : o' + (o + j) < C.size := by omega
                  rw [Array.getD_eq_getD_getElem?, Array.getElem?_eq_getElem hsz] at q
                  rw [Nat.add_assoc, Array.getElem?_eq_getElem hsz]
                  simp only [Option.getD_some] at q
                  generalize hx : C[o' + (o + j)] = x at q
                  cases q
                  rfl
                have hH : Holds (Value.int .i64) w b (o' + o) zs.toArray := by
                  intro j hj
                  have hj' : j < zs.length := by simpa using hj
                  refine ⟨?_, ?_⟩
                  · unfold World.cell?
                    simp only [hw]
                    rw [if_neg (by simp), hcell j hj', List.getD_eq_getElem?_getD, List.getElem?_eq_getElem hj']
                    simp [hj']
                  · unfold World.frozen?
                    simp only [hw]
                    simp
                rw [← hzl]
                refine (h1 b (o' + o) c' zs w hH hb (by omega)).mono fun e w' ⟨he, m, os, hw'⟩ => ?_
                subst he
                rw [sortI_eq] at hw'
                have hlS : (sortI zs).length = n := by rw [sortI_length, hzl]
                -- the write
                have hL : w.heap.modify b (onCells (putCells (Value.int .i64) (o' + o) (sortI zs).toArray)) = (putRow (Value.int .i64) (Sort.ahead w m) b (o' + o) (sortI zs).toArray).heap := rfl
                have hbl : (putRow (Value.int .i64) (Sort.ahead w m) b (o' + o) (sortI zs).toArray).heap[b]? = some (.cells (putCells (Value.int .i64) (o' + o) (sortI zs).toArray C) T (0, 0)) := by
                  rw [← hL, Array.getElem?_modify, if_pos rfl, hw]; rfl
                have hother : ∀ k, k ≠ b → (putRow (Value.int .i64) (Sort.ahead w m) b (o' + o) (sortI zs).toArray).heap[k]? = w.heap[k]? := by
                  intro k hk
                  rw [← hL, Array.getElem?_modify, if_neg (fun e => hk e.symm)]
                have hspl : (splice cs o ((sortI zs).map fun m => PV.int .i64 m)).length = cs.length := by
                  simp only [splice, List.length_append, List.length_take, List.length_drop, List.length_map, hlS]; omega
                obtain ⟨hs1, st1⟩ := hs.wrote (B := .cells (splice cs o ((sortI zs).map fun m => .int .i64 m))) (w' := putRow (Value.int .i64) (Sort.ahead w m) b (o' + o) (sortI zs).toArray) (by rw [hblk]; simp) hρ rfl rfl rfl
                  (by simp [Sort.ahead]) hother
                  (fun C' T' f' e => by rw [hw] at e; cases e; exact ⟨_, hbl, by simp [putCells]⟩)
                  (fun st => by
                    refine ⟨_, T, hbl, ?_, fun j hj => ?_, fun x hx => ?_⟩
                    · rw [hspl]; simp [putCells]; exact g4
                    · have hj2 : j < cs.length := by rw [← hspl]; exact hj
                      have hjC : o' + j < C.size := by omega
                      rw [Array.getD_eq_getD_getElem?]
                      simp only [putCells, Array.getElem?_mapIdx, Array.getElem?_eq_getElem hjC, Option.map_some, Option.getD_some, List.size_toArray, hlS]
                      by_cases hin : o ≤ j ∧ j < o + n
                      · rw [if_pos (by omega)]
                        have e1 : (splice cs o ((sortI zs).map fun m => PV.int .i64 m))[j] = .int .i64 ((sortI zs)[j - o]'(by omega)) := by
                          apply Option.some.inj
                          rw [← List.getElem?_eq_getElem hj]
                          simp only [splice, List.append_assoc]
                          rw [List.getElem?_append_right (by simp; omega), List.getElem?_append_left (by simp [hlS]; omega), List.getElem?_map]
                          simp only [List.length_take]
                          rw [show min o cs.length = o by omega, List.getElem?_eq_getElem (show j - o < (sortI zs).length by omega)]
                          rfl
                        rw [e1]
                        have e2 : (sortI zs).toArray[o' + j - (o' + o)]! = (sortI zs)[j - o]'(by omega) := by
                          have : o' + j - (o' + o) = j - o := by omega
                          rw [this, getElem!_pos _ _ (by simp; omega)]
                          simp
                        rw [e2]
                        exact .int _ _
                      · rw [if_neg (by omega)]
                        have e1 : (splice cs o ((sortI zs).map fun m => PV.int .i64 m))[j] = cs[j] := by
                          apply Option.some.inj
                          rw [← List.getElem?_eq_getElem hj, ← List.getElem?_eq_getElem hj2]
                          simp only [splice, List.append_assoc]
                          by_cases hjo : j < o
                          · rw [List.getElem?_append_left (by simp; omega), List.getElem?_take, if_pos hjo]
                          · rw [List.getElem?_append_right (by simp; omega), List.getElem?_append_right (by simp [hlS]; omega), List.getElem?_drop]
                            congr 1
                            simp only [List.length_take, List.length_map, hlS]
                            omega
                        rw [e1]
                        have q := g5 j hj2
                        rw [Array.getD_eq_getD_getElem?, Array.getElem?_eq_getElem hjC] at q
                        exact q.step hs st
                    · simp only [splice, List.append_assoc, List.mem_append] at hx
                      rcases hx with hx | hx | hx
                      · exact g6 x (List.mem_of_mem_take hx)
                      · obtain ⟨y, _, rfl⟩ := List.mem_map.1 hx; rfl
                      · exact g6 x (List.mem_of_mem_drop hx))
                obtain ⟨hs2, st2⟩ := hs1.grow (w' := w') (I' := I) (by rw [hw']; rfl) (by rw [hw']; rfl) (by rw [hw']; rfl) (by rw [hw', size_grow]; omega) (fun k hk => by rw [hw']; exact heap_grow_old _ _ hk) (fun _ q => q) (fun _ q => .inl q) (fun k q => by
                  have := hs1.inI k q
                  rw [hw', size_grow]; omega)
                exact ⟨ρ, I, _, rfl, st1.trans st2, hs2, .tup rfl fun j hj => absurd hj (by simp)⟩
            · cases e
          · cases e
        · cases e
    · cases e
  · unfold primSort at e
    have hset : ∀ (h : AH) (i : Nat) (B : Blk) (cs : List PV), WFH h → h.row i = some cs → WFH (h.set i B) := by
      intro h i B cs hw hr k hk
      rw [AH.set_blk]
      split
      · rename_i hki
        subst hki
        have := hw k hk
        rw [row_some hr] at this
        cases this
      · exact hw k hk
    split at e
    · cases e; exact hw
    · split at e
      · cases e; exact hw
      · split at e
        case isFalse => cases e
        split at e
        · rename_i cs hr
          split at e
          · split at e
            · cases e; exact hset _ _ _ _ hw hr
            · cases e
          · cases e
        · cases e
    · cases e
  · unfold primSort at e
    have r0 : KL h h := ⟨rfl, Nat.le_refl _, fun _ _ _ => rfl⟩
    split at e
    · cases e; exact r0
    · split at e
      · cases e; exact r0
      · split at e
        case isFalse => cases e
        rename_i hlo
        split at e
        · rename_i cs hr
          split at e
          · split at e
            · cases e; exact ⟨rfl, Nat.le_refl _, fun hl i hi => by rw [AH.set_blk, if_neg (by omega)]⟩
            · cases e
          · cases e
        · cases e
    · cases e
end
end Go.Ev

/- Library functions by their contracts: copies of slices. -/
set_option linter.unusedVariables false
set_option linter.unusedSimpArgs false
namespace Go.Ev

def cloneCode (z b : Nat) : CFun := ⟨false, false, (.seq (.reg [⟨(some 2), (.mov (.c .emp)), none⟩]) (.seq (.seq (.reg [⟨(some 3), (.mov (.t 0)), none⟩, ⟨(some 4), (.isnil false 1 (.t 3)), none⟩]) (.cond (.t 4) (.seq (.reg [⟨(some 2), (.mov (.c .emp)), none⟩]) .ret) .skip)) (.seq (.reg [⟨(some 5), (.blit 0 [] []), none⟩, ⟨(some 6), (.mov (.t 0)), none⟩, ⟨(some 7), (.app z b (.t 5) (.t 6)), none⟩, ⟨(some 2), (.mov (.t 7)), none⟩]) .ret))), [(.t 2)]⟩

/-- A copy that is the caller's own. -/
def primCloneO (z b : Nat) (as : List PV) (h : AH) : Option (PV × AH) :=
  match as with
  | [x] => match src h z x with
    | some (0, _) => some (.emp, h)
    | some (n + 1, ys) => if 0 < z ∧ roomOk (n + 1) (b + 1) = true then some (.rf z h.nx 0 (n + 1), h.push (.cells ys)) else none
    | none => none
  | _ => none

def flat : PV → Bool
  | .int _ _ | .bool _ | .str _ => true
  | _ => false

/-- A copy that is immutable. -/
def primCloneI (z b : Nat) (as : List PV) (h : AH) : Option (PV × AH) :=
  match as with
  | [x] => match snap h snapDepth x with
    | some (.sl 0 _) => some (.sl 0 [], h)
    | some (.sl (n + 1) ys) => if 0 < z ∧ ys.length = (n + 1) * z ∧ roomOk (n + 1) (b + 1) = true ∧ ys.all flat = true then some (.sl (n + 1) ys, h) else none
    | _ => none
  | _ => none

section
variable {P : Program} {f : Nat} {z b : Nat}

theorem src_notnil {h : AH} {x : PV} {n : Nat} {ys : List PV} (hz : 0 < z) (e : src h z x = some (n + 1, ys)) : isNilK 1 x = some false := by
  cases x with
  | sl m cs =>
    simp only [src] at e
    split at e
    · rename_i hl
      cases e
      cases ys with
      | nil =>
        exfalso
        have : 0 < (n + 1) * z := Nat.mul_pos (Nat.succ_pos _) hz
        simp at hl
        omega
      | cons a r => rfl
    · cases e
  | rf z' i o m =>
    simp only [src] at e
    split at e
    · split at e
      · cases e; rfl
      · cases e
    · cases e
  | _ => simp [src] at e

theorem clone_ev {T : Nat → Option Fun} {h : AH} {x : PV} {n : Nat} {ys : List PV} (hT : T f = some (.code (cloneCode z b))) (hz : 0 < z) (hr : roomOk (n + 1) (b + 1) = true) (e : src h z x = some (n + 1, ys)) :
    CE T f [x] h (.rf z h.nx 0 (n + 1)) (h.push (.cells ys)) := by
  refine CE_shared hT rfl rfl ?_
  have hn := src_notnil hz e
  simp only [cloneCode, WC_skip, WC_exit, WC_ret, WC_reg, WC_seq, WC_cond, WC_block, WO_nil, WO_cons, W1_call, W1_mov, W1_nilchk, W1_pick, W1_alloc, W1_box, W1_boxi, W1_blit, W1_clear, W1_bslice, W1_build, W1_load, W1_store, W1_bin, W1_eqb, W1_eqs, W1_isnil, W1_un, W1_conv, W1_str, W1_mkfn, W1_mkmap, W1_mkslice, W1_slice, W1_slstr, W1_fld, W1_fldv, W1_idx, W1_idxp, W1_idxv, W1_idxs, W1_lkp, W1_upd, W1_ext, W1_len, W1_app, W1_minmax, W1_del, thenQ_nrm, thenQ_exit, thenQ_ret, blockQ_nrm, blockQ_exit, blockQ_ret, condQ_bool, condQ_true, condQ_false, opQ_some, evOp, evOpB, barOk, target, lowOk, wants, Opd.val, Fr.put, keep, initFr, hn]
  simp [fillP, evApp, e, hn, hr, resOf, resAll, resAt, opQ, condQ]

theorem src_zero {h : AH} {x : PV} {ys : List PV} {ρ : Nat → Option (Nat × Nat)} {I : Nat → Prop} {w : World} {u : Value} (e : src h z x = some (0, ys)) (hv : VR ρ I w u x) : ∃ A c, u = .slice A 0 c := by
  cases x with
  | sl m cs =>
    simp only [src] at e
    split at e
    · cases e
      cases hv
      exact ⟨_, _, rfl⟩
    · cases e
  | emp => cases hv; exact ⟨_, _, rfl⟩
  | rf z' i o m =>
    simp only [src] at e
    split at e
    · split at e
      · cases e
        cases hv
        · exact ⟨_, _, rfl⟩
        · exact ⟨_, _, rfl⟩
      · cases e
    · cases e
  | _ => simp [src] at e

theorem clone_calls {v : Nat} {x : PV} {h : AH} {n : Nat} {ys : List PV} {ρ : Nat → Option (Nat × Nat)} {I : Nat → Prop} {w : World} {us : Array Value} (hvf : rl v = f) (hlt : f < vb)
    (hcomp : compFn P (fun _ => false) (fun _ _ => 0) f = some (cloneCode z b)) (hz : 0 < z) (hr : roomOk (n + 1) (b + 1) = true) (e : src h z x = some (n + 1, ys)) (hs : SR ρ I h w) (hv : VRL ρ I w us [x]) :
    Callable P f ∧ Calls P f us w (Post ρ I h w (.rf z h.nx 0 (n + 1)) (h.push (.cells ys))) := by
  have ht : TOk P (fun _ => false) (fun k => if k = f then some (.code (cloneCode z b)) else none) := by
    refine ⟨fun k c hk => ?_, fun k p g hk => ?_⟩
    · split at hk
      · rename_i q; subst q; cases hk; exact ⟨_, hcomp⟩
      · cases hk
    · split at hk
      · cases hk
      · cases hk
  obtain ⟨m, hm⟩ := clone_ev (T := fun k => if k = f then some (.code (cloneCode z b)) else none) (f := f) (by simp) hz hr e
  have hrl : rl f = f := Nat.mod_eq_of_lt hlt
  obtain ⟨k1, k2⟩ := callOk ht m f [x] h _ _ hm
  rw [hrl] at k1 k2
  exact ⟨k1, k2 ρ I w us hs hv⟩

theorem callable_of {pu : Nat → Bool} {ow : Nat → Nat → Nat} {c : CFun} (hlt : f < vb) (hcomp : compFn P pu ow f = some c) : Callable P f := by
  obtain ⟨fn, code, h1, h2, h3, _⟩ := compFn_inv hcomp
  have hrl : rl f = f := Nat.mod_eq_of_lt hlt
  rw [hrl] at h1
  exact ⟨fn, h1, h3, by rw [h2]; rfl⟩

theorem primCloneO_ok {v : Nat} (hvf : rl v = f) (hlt : f < vb) (hcomp : compFn P (fun _ => false) (fun _ _ => 0) f = some (cloneCode z b))
    (h0 : ∀ (A : Option Addr) (c : Nat) (w : World), Calls P f #[.slice A 0 c] w fun e w' => RowKit.Below w.heap.size w w' ∧ ∃ A', e = .returned (.slice A' 0 0)) : PrimOk P false v (primCloneO z b) := by
  refine ⟨by rw [hvf]; exact callable_of hlt hcomp, fun as h r h' e ρ I w us hs hv => ?_, fun as h r h' hw e => ?_, fun as h r h' e => ?_, fun q => by cases q⟩
  · rw [hvf]
    unfold primCloneO at e
    split at e
    · rename_i x
      split at e
      · rename_i ys hsrc
        cases e
        obtain ⟨u, rfl, h2⟩ := VRL_sing hv
        obtain ⟨A, c, rfl⟩ := src_zero hsrc h2
        refine (h0 A c w).mono fun e w' ⟨hb, A', he⟩ => ?_
        subst he
        obtain ⟨g1, g2⟩ := hs.grow (w' := w') (I' := I) hb.os hb.tape hb.output hb.size hb.block (fun _ q => q) (fun _ q => .inl q) (fun k q => Nat.lt_of_lt_of_le (hs.inI k q) hb.size)
        exact ⟨ρ, I, _, rfl, g2, g1, .emp⟩
      · rename_i n ys hsrc
        split at e
        · rename_i hc
          cases e
          exact (clone_calls hvf hlt hcomp hc.1 hc.2 hsrc hs hv).2
        · cases e
      · cases e
    · cases e
  · unfold primCloneO at e
    split at e
    · split at e
      · cases e; exact hw
      · split at e
        · cases e; exact hw.push _
        · cases e
      · cases e
    · cases e
  · unfold primCloneO at e
    split at e
    · split at e
      · cases e; exact ⟨rfl, Nat.le_refl _, fun _ _ _ => rfl⟩
      · split at e
        · cases e; exact ⟨rfl, Nat.le_succ _, fun hl i hi => by rw [AH.push_blk, if_neg (by omega)]⟩
        · cases e
      · cases e
    · cases e

theorem primCloneO_ext (as : List PV) (h : AH) (r : PV) (h' : AH) (hw : ∀ i, h.nx ≤ i → h.blk i = none) (e : primCloneO z b as h = some (r, h')) : h.le h' := by
  unfold primCloneO at e
  split at e
  · split at e
    · cases e; exact fun i B q => q
    · split at e
      · cases e; exact push_le h _ (hw _ (Nat.le_refl _))
      · cases e
    · cases e
  · cases e

theorem src_le {h h' : AH} {x : PV} {r : Nat × List PV} (hl : h.le h') (e : src h z x = some r) : src h' z x = some r := by
  cases x with
  | rf z' i o n =>
    simp only [src] at e ⊢
    cases hr : h.row i with
    | none => simp [hr] at e
    | some cs => simp only [hr] at e; rw [row_le hl hr]; exact e
  | _ => exact e

theorem src_mem {h : AH} {x : PV} {n : Nat} {ys : List PV} {ρ : Nat → Option (Nat × Nat)} {I : Nat → Prop} {w : World} (hs : SR ρ I h w) (e : src h z x = some (n, ys)) : ys.length = n * z := by
  cases x with
  | sl m cs =>
    simp only [src] at e
    split at e
    · rename_i hl; cases e; exact hl
    · cases e
  | emp => simp only [src] at e; cases e; simp
  | rf z' i o m =>
    simp only [src] at e
    split at e
    · split at e
      · rename_i cs _ hl; cases e; simp; omega
      · cases e
    · cases e
  | _ => simp [src] at e

end
end Go.Ev

/- Library functions by their contracts: immutable copies of slices. -/
set_option linter.unusedVariables false
set_option linter.unusedSimpArgs false
namespace Go.Ev
section
variable {P : Program} {f : Nat} {z b : Nat}

theorem snap_flat {h : AH} {d : Nat} {v : PV} (hf : flat v = true) : snap h (d + 1) v = some v := by
  cases v <;> first | rfl | simp [flat] at hf

theorem snap_flats {h : AH} {d : Nat} : ∀ {vs : List PV}, vs.all flat = true → allO (snap h (d + 1)) vs = some vs
  | [], _ => rfl
  | v :: r, hf => by
    simp only [List.all_cons, Bool.and_eq_true] at hf
    simp only [allO, snap_flat hf.1, snap_flats hf.2]

theorem snap_zero {h : AH} {d : Nat} {x : PV} {ys : List PV} {ρ : Nat → Option (Nat × Nat)} {I : Nat → Prop} {w : World} {u : Value} (e : snap h (d + 1) x = some (.sl 0 ys)) (hv : VR ρ I w u x) : ∃ A c, u = .slice A 0 c := by
  cases x with
  | sl m cs =>
    simp only [snap, Option.map_eq_some_iff] at e
    obtain ⟨_, _, e⟩ := e
    cases e
    cases hv
    exact ⟨_, _, rfl⟩
  | emp => cases hv; exact ⟨_, _, rfl⟩
  | rf z' i o m =>
    simp only [snap] at e
    split at e
    · split at e
      · simp only [Option.map_eq_some_iff] at e
        obtain ⟨_, _, e⟩ := e
        cases e
        cases hv
        · exact ⟨_, _, rfl⟩
        · exact ⟨_, _, rfl⟩
      · cases e
    · cases e
  | pt i o =>
    simp only [snap] at e
    split at e
    · simp only [Option.map_eq_some_iff] at e; obtain ⟨_, _, e⟩ := e; cases e
    · cases e
  | fn f a c =>
    simp only [snap] at e
    split at e
    · cases e
    · cases e
  | pi cs => simp only [snap, Option.map_eq_some_iff] at e; obtain ⟨_, _, e⟩ := e; cases e
  | agg cs => simp only [snap, Option.map_eq_some_iff] at e; obtain ⟨_, _, e⟩ := e; cases e
  | tup cs => simp only [snap, Option.map_eq_some_iff] at e; obtain ⟨_, _, e⟩ := e; cases e
  | _ => simp [snap] at e

theorem noImm_flats {h : AH} {d : Nat} : ∀ {vs : List PV}, vs.all flat = true → vs.all (noImm h (d + 1)) = true
  | [], _ => rfl
  | v :: r, hf => by
    simp only [List.all_cons, Bool.and_eq_true] at hf ⊢
    refine ⟨?_, noImm_flats hf.2⟩
    have := hf.1
    cases v <;> first | rfl | simp [flat] at this

theorem snap_own {d : Nat} {n : Nat} {ys : List PV} (hl : ys.length = (n + 1) * z) (hf : ys.all flat = true) :
    snap (AH.zero.push (.cells ys)) (d + 2) (.rf z AH.zero.nx 0 (n + 1)) = some (.sl (n + 1) ys) ∧ noImm (AH.zero.push (.cells ys)) (d + 2) (.rf z AH.zero.nx 0 (n + 1)) = true := by
  have hrow : (AH.zero.push (.cells ys)).row AH.zero.nx = some ys := rfl
  have hfl : allO (snap (AH.zero.push (.cells ys)) (d + 1)) ys = some ys := snap_flats hf
  have hni : ys.all (noImm (AH.zero.push (.cells ys)) (d + 1)) = true := noImm_flats hf
  obtain ⟨e, he⟩ : ∃ e, e = d + 1 := ⟨_, rfl⟩
  rw [show d + 2 = e + 1 by omega]
  rw [← he] at hfl hni
  constructor
  · simp only [snap, hrow, Nat.zero_add, ← hl, Nat.le_refl, if_true, List.drop_zero, List.take_length, hfl, Option.map_some]
  · simp only [noImm, hrow, ← hl, List.drop_zero, List.take_length, hni]

theorem clone_evI {T : Nat → Option Fun} {h : AH} {x : PV} {n : Nat} {ys : List PV} (hT : T f = some (.code { cloneCode z b with pure := true })) (hz : 0 < z) (hr : roomOk (n + 1) (b + 1) = true) (hl : ys.length = (n + 1) * z) (hf : ys.all flat = true)
    (hsn : snap h snapDepth x = some (.sl (n + 1) ys)) : CE T f [x] h (.sl (n + 1) ys) h := by
  have e2 : src AH.zero z (.sl (n + 1) ys) = some (n + 1, ys) := by simp only [src, if_pos hl]
  have hn := src_notnil hz e2
  refine CE_pure hT rfl (as' := [.sl (n + 1) ys]) (by simp only [allO, hsn]) ?_
  obtain ⟨hsnap, hni⟩ : snap (AH.zero.push (.cells ys)) snapDepth (.rf z AH.zero.nx 0 (n + 1)) = some (.sl (n + 1) ys) ∧ noImm (AH.zero.push (.cells ys)) snapDepth (.rf z AH.zero.nx 0 (n + 1)) = true := by
    rw [show snapDepth = 10 + 2 from rfl]
    exact snap_own hl hf
  have happ : ∀ h0 : AH, evApp h0 z b .emp (.sl (n + 1) ys) = some (.rf z h0.nx 0 (n + 1), h0.push (.cells ys)) := fun h0 => by
    have e3 : src h0 z (.sl (n + 1) ys) = some (n + 1, ys) := by simp only [src, if_pos hl]
    simp only [evApp, e3, if_pos hr]
  refine WC.imp (Q := fun ex s' h1 => ex = .ret ∧ s' 2 = .rf z AH.zero.nx 0 (n + 1) ∧ h1 = AH.zero.push (.cells ys)) ?_ ?_
  · clear hsnap hni hsn
    generalize AH.zero = g at e2
    simp only [cloneCode, WC_skip, WC_exit, WC_ret, WC_reg, WC_seq, WC_cond, WC_block, WO_nil, WO_cons, W1_call, W1_mov, W1_nilchk, W1_pick, W1_alloc, W1_box, W1_boxi, W1_blit, W1_clear, W1_bslice, W1_build, W1_load, W1_store, W1_bin, W1_eqb, W1_eqs, W1_isnil, W1_un, W1_conv, W1_str, W1_mkfn, W1_mkmap, W1_mkslice, W1_slice, W1_slstr, W1_fld, W1_fldv, W1_idx, W1_idxp, W1_idxv, W1_idxs, W1_lkp, W1_upd, W1_ext, W1_len, W1_app, W1_minmax, W1_del, thenQ_nrm, thenQ_exit, thenQ_ret, blockQ_nrm, blockQ_exit, blockQ_ret, condQ_bool, condQ_true, condQ_false, opQ_some, evOp, evOpB, barOk, target, lowOk, wants, Opd.val, Fr.put, keep, initFr, hn]
    simp [fillP, happ, hn, opQ, condQ]
  · rintro ex s' h1 ⟨rfl, h2, rfl⟩
    refine ⟨.inr rfl, _, ?_, hsnap, .inr hni⟩
    show resOf [.t 2] s' _ = _
    simp [resOf, resAll, resAt, h2]

theorem primCloneI_ok {v : Nat} (hvf : rl v = f) (hlt : f < vb) (hcomp : compFn P (fun k => k == f) (fun _ _ => 0) f = some { cloneCode z b with pure := true })
    (h0 : ∀ (A : Option Addr) (c : Nat) (w : World), Calls P f #[.slice A 0 c] w fun e w' => RowKit.Below w.heap.size w w' ∧ ∃ A', e = .returned (.slice A' 0 0)) : PrimOk P true v (primCloneI z b) := by
  have ht : TOk P (fun k => k == f) (fun k => if k = f then some (.code { cloneCode z b with pure := true }) else none) := by
    refine ⟨fun k c hk => ?_, fun k p g hk => ?_⟩
    · split at hk
      · rename_i q; subst q; cases hk; exact ⟨_, hcomp⟩
      · cases hk
    · split at hk
      · cases hk
      · cases hk
  have hrl : rl f = f := Nat.mod_eq_of_lt hlt
  refine ⟨by rw [hvf]; exact callable_of hlt hcomp, fun as h r h' e ρ I w us hs hv => ?_, fun as h r h' hw e => ?_, fun as h r h' e => ?_, fun _ as h r h' e => ?_⟩
  · rw [hvf]
    unfold primCloneI at e
    split at e
    · rename_i x
      split at e
      · rename_i ys hsrc
        cases e
        obtain ⟨u, rfl, h2⟩ := VRL_sing hv
        obtain ⟨A, c, rfl⟩ := snap_zero (d := 11) hsrc h2
        refine (h0 A c w).mono fun e w' ⟨hb, A', he⟩ => ?_
        subst he
        obtain ⟨g1, g2⟩ := hs.grow (w' := w') (I' := I) hb.os hb.tape hb.output hb.size hb.block (fun _ q => q) (fun _ q => .inl q) (fun k q => Nat.lt_of_lt_of_le (hs.inI k q) hb.size)
        exact ⟨ρ, I, _, rfl, g2, g1, .sl (fun _ => undef) (Nat.le_refl 0) (fun h => absurd rfl h) (fun j hj => absurd hj (by simp)) (by simp)⟩
      · rename_i n ys hsrc
        split at e
        · rename_i hc
          cases e
          obtain ⟨m, hm⟩ := clone_evI (T := fun k => if k = f then some (.code { cloneCode z b with pure := true }) else none) (f := f) (by simp) hc.1 hc.2.2.1 hc.2.1 hc.2.2.2 hsrc
          have := (callOk ht m f [x] h _ _ hm).2
          rw [hrl] at this
          exact this ρ I w us hs hv
        · cases e
      · cases e
    · cases e
  · unfold primCloneI at e
    split at e
    · split at e
      · cases e; exact hw
      · split at e
        · cases e; exact hw
        · cases e
      · cases e
    · cases e
  · unfold primCloneI at e
    have r0 : KL h h := ⟨rfl, Nat.le_refl _, fun _ _ _ => rfl⟩
    split at e
    · split at e
      · cases e; exact r0
      · split at e
        · cases e; exact r0
        · cases e
      · cases e
    · cases e
  · unfold primCloneI at e ⊢
    split at e
    · split at e
      · rename_i ys hsrc
        cases e
        exact ⟨rfl, fun h2 hl => by simp only [snap_le hl snapDepth _ _ hsrc]⟩
      · rename_i n ys hsrc
        split at e
        · rename_i hc
          cases e
          exact ⟨rfl, fun h2 hl => by simp only [snap_le hl snapDepth _ _ hsrc, if_pos hc]⟩
        · cases e
      · cases e
    · cases e
end
end Go.Ev

/- Each operation of the abstract machine stands for the machine's own: the assembly. -/
import Derived.Test.YtkaabknkabdfpaaGreatDoorLibA
import Derived.Orders
import Derived.LoopN
import Derived.Scope
import Derived.OrdersIn
import Derived.LoopNIn
import Derived.DefersIn
import Derived.RecoverIn
import Derived.RangeFuncIn
import Derived.RangeFuncRecord
import Derived.RangeFuncLeaves
import Derived.RangeFuncNested
import Derived.ChangeOld
import Derived.ChangeReads
import Derived.WideShapes
import Derived.ChangeShapes
import Derived.Sort.Row
import Derived.Sort.Grow
set_option linter.unusedVariables false
set_option linter.unusedSimpArgs false
namespace Go.Ev
variable [LoopSpec]
section
variable {P : Program} {ρ : Nat → Option (Nat × Nat)} {I : Nat → Prop} {h h' : AH} {w : World} {nt : Nat} {Bo : Nat × List Deferred × Bool} {a : Act} {s : Fr} {u u' : Value} {v X Y : PV}
  {call : Nat → List PV → AH → Option (PV × AH)}

omit [LoopSpec] in
theorem opd_map {x : Operand} {f : Opd → COp} {c : COp} (e : (opd x).map f = some c) : ∃ X, opd x = some X ∧ c = f X := by
  simp only [Option.map_eq_some_iff] at e
  obtain ⟨X, h1, h2⟩ := e
  exact ⟨X, h1, h2.symm⟩

theorem bin_out {o : Oper} {op : BinOp} {t t' : TypeId} {x y : Operand} {c : COp} (hs : SR ρ I h w) (hf : FR Bo ρ I w nt a s) (ho : o.op = .binOp op t x y t') (hc : compBin P op t x y = some c) (ev : evOp call c s h = some (v, h')) :
    Out ρ I h w v h' ((execOp a.eval o).run P w) := by
  unfold compBin at hc
  split at hc
  · rename_i X Y hX hY
    have hx := opd_vr hX hf
    have hy := opd_vr hY hf
    simp only [execOp, ho]
    by_cases hop : op = .eql ∨ op = .neq
    · rw [if_pos hop] at hc
      split at hc
      · cases hc
        obtain ⟨e, rfl⟩ := keep_inv ev
        obtain ⟨r1, r2⟩ := bin_ok (P := P) (t := t) (x := x) (y := y) e hx hy
        exact outS r1 hs r2
      · cases hc
        obtain ⟨e, rfl⟩ := keep_inv ev
        obtain ⟨r1, r2⟩ := bin_ok (P := P) (t := t) (x := x) (y := y) e hx hy
        exact outS r1 hs r2
      · rename_i hu
        cases hc
        obtain ⟨e, rfl⟩ := keep_inv ev
        split at e
        · rename_i b c hb hb'
          rw [hb] at hx
          rw [hb'] at hy
          cases e
          obtain ⟨r, r1, r2⟩ := eqb_ok (P := P) (x := x) (y := y) hop hu hx hy
          exact outS r1 hs r2
        · cases e
      · rename_i fs hu
        split at hc
        · rename_i hfl
          cases hc
          obtain ⟨e, rfl⟩ := keep_inv ev
          split at e
          · rename_i b c hb hb'
            rw [hb] at hx
            rw [hb'] at hy
            simp only [Option.map_eq_some_iff] at e
            obtain ⟨r, e1, rfl⟩ := e
            exact outS (eqs_ok (P := P) (x := x) (y := y) hop hu hfl hx hy e1) hs (.bool _)
          · cases e
        · cases hc
      · simp only [Option.map_eq_some_iff] at hc
        obtain ⟨k, hk, rfl⟩ := hc
        obtain ⟨e, rfl⟩ := keep_inv ev
        simp only [Option.map_eq_some_iff] at e
        obtain ⟨r, e1, rfl⟩ := e
        exact outS (isnil_ok (P := P) (x := x) hop hk hx e1) hs (.bool _)
    · rw [if_neg hop] at hc
      cases hc
      obtain ⟨e, rfl⟩ := keep_inv ev
      obtain ⟨r1, r2⟩ := bin_ok (P := P) (t := t) (x := x) (y := y) e hx hy
      exact outS r1 hs r2
  · cases hc

/-- An operation that is no call of a function. -/
def COp.notCall : COp → Bool
  | .call _ _ | .callv _ _ | .callp _ _ _ => false
  | _ => true

def lenT (P : Program) (t : TypeId) : Nat → Prop
  | 0 => P.underlying t = some .string
  | 1 => ∃ e, P.underlying t = some (.slice e)
  | 2 => ∃ k e, P.underlying t = some (.map k e)
  | _ => False

theorem len_ok {t : TypeId} {ty : TypeId} {k : Nat} (hs : SR ρ I h w) (ht : lenT P t k) (hx : VR ρ I w u X) (e : evLen h k X = some v) : (Builtin.len_ #[t] ty #[u]).run P w = .ok (conc v) w ∧ VR ρ I w (conc v) v := by
  unfold evLen at e
  split at e
  · rw [hx.str_inv]; cases e
    have hu : P.underlying t = some .string := ht
    exact ⟨by simp [Builtin.len_, run_underlying hu, goInt, conc], .int _ _⟩
  · cases e
    obtain ⟨e', hu⟩ : ∃ e, P.underlying t = some (.slice e) := ht
    cases hx
    exact ⟨by simp [Builtin.len_, run_underlying hu, goInt, conc], .int _ _⟩
  · cases e
    obtain ⟨e', hu⟩ : ∃ e, P.underlying t = some (.slice e) := ht
    cases hx
    exact ⟨by simp [Builtin.len_, run_underlying hu, goInt, conc], .int _ _⟩
  · cases e
    obtain ⟨e', hu⟩ : ∃ e, P.underlying t = some (.slice e) := ht
    cases hx <;> exact ⟨by simp [Builtin.len_, run_underlying hu, goInt, conc], .int _ _⟩
  · cases e
    obtain ⟨k', e', hu⟩ : ∃ k e, P.underlying t = some (.map k e) := ht
    cases hx
    exact ⟨by simp [Builtin.len_, run_underlying hu, goInt, conc], .int _ _⟩
  · rename_i i
    obtain ⟨k', e', hu⟩ : ∃ k e, P.underlying t = some (.map k e) := ht
    split at e
    · rename_i es hbk
      cases e
      cases hx with
      | mp hρ =>
        obtain ⟨M, clock, g1, g2, g3⟩ := own_map hs hbk hρ
        exact ⟨by simp [Builtin.len_, run_underlying hu, Go.MapKept.run_getObj_map g1, goInt, conc, g2], .int _ _⟩
    · cases e
  · cases e

theorem clear_ok {t e : TypeId} {z : Nat} {zs : List PV} {ty : TypeId} (hs : SR ρ I h w) (hu : P.underlying t = some (.slice e)) (hz : szT P e = some z) (hzc : zeroCells P e = some zs) (hx : VR ρ I w u X)
    (ev : evClear h z zs X = some (v, h')) : ∃ w', (Builtin.clear_ #[t] ty #[u]).run P w = .ok (.tuple #[]) w' ∧ SR ρ I h' w' ∧ St ρ I h w ρ I h' w' ∧ v = .tup [] := by
  obtain ⟨zv, z1, z2⟩ := zeroCells_inv hzc
  have hzv : VRA ρ I w zv.cells zs := zero_vra z2
  have nothing : ∀ A : Option Addr, (Builtin.clear_ #[t] ty #[.slice A 0 0]).run P w = .ok (.tuple #[]) w := by
    intro A
    cases A <;> simp [Builtin.clear_, run_underlying hu]
  unfold evClear at ev
  cases X with
  | emp =>
    cases ev
    cases hx
    exact ⟨w, nothing _, hs, .refl, rfl⟩
  | rf z' i o n =>
    simp only at ev
    cases hr : h.row i with
    | none => simp [hr] at ev
    | some cs =>
      simp only [hr] at ev
      split at ev
      · rename_i hc
        obtain ⟨rfl, hle, hzl⟩ := hc
        cases ev
        cases hx with
        | rf0 =>
          have heq : h.set i (.cells (splice cs o (List.replicate 0 zs).flatten)) = h := by
            refine AH.ext' ?_ ?_ ?_ rfl
            · rfl
            · rfl
            · intro j
              rw [AH.set_blk]
              by_cases q : j = i
              · rw [if_pos q, q, row_blk hr]
                simp [splice]
              · rw [if_neg q]
          rw [heq]
          exact ⟨w, nothing _, hs, .refl, rfl⟩
        | rf hρ hn hw hc =>
          rename_i b o' c C T f
          obtain ⟨C2, T2, g1, g2, g3, g4⟩ := own_row hs (row_blk hr) hρ
          rw [hw] at g1
          cases g1
          by_cases hn0 : n = 0
          · subst hn0
            have heq : h.set i (.cells (splice cs o (List.replicate 0 zs).flatten)) = h := by
              refine AH.ext' ?_ ?_ ?_ rfl
              · rfl
              · rfl
              · intro j
                rw [AH.set_blk]
                by_cases q : j = i
                · rw [if_pos q, q, row_blk hr]
                  simp [splice]
                · rw [if_neg q]
            rw [heq]
            exact ⟨w, by simp [Builtin.clear_, run_underlying hu], hs, .refl, rfl⟩
          · by_cases hz0 : z' = 0
            · have hzn : zs = [] := List.eq_nil_of_length_eq_zero (by omega)
              have hv0 : zv.cells.size = 0 := by rw [hzv.1, hzn]; rfl
              have heq : h.set i (.cells (splice cs o (List.replicate n zs).flatten)) = h := by
                refine AH.ext' ?_ ?_ ?_ rfl
                · rfl
                · rfl
                · intro j
                  rw [AH.set_blk]
                  by_cases q : j = i
                  · rw [if_pos q, q, row_blk hr]
                    simp [splice, hzn]
                  · rw [if_neg q]
              rw [heq]
              refine ⟨w, ?_, hs, .refl, rfl⟩
              have : (Builtin.zeroCells zv.cells n) = #[] := by simp [Builtin.zeroCells, hv0]
              obtain ⟨m, rfl⟩ := Nat.exists_eq_succ_of_ne_zero hn0
              simp [Builtin.clear_, run_underlying hu, run_zeroValue z1, this, storeCells]
            · have hr2 := reps_vra (n := n) hzv (by omega)
              have hsz : zv.cells.size = zs.length := hzv.1
              have hzc' : Builtin.zeroCells zv.cells n = (Array.range (n * zs.length)).map fun i => zv.cells[i % zv.cells.size]! := by rw [Builtin.zeroCells, hsz]
              have hmul : n * z' ≤ c * z' := Nat.mul_le_mul_right _ hn
              obtain ⟨w', e1, e2, e3⟩ := write_ok (P := P) (k := o) (ds := (List.replicate n zs).flatten) (vs := (Builtin.zeroCells zv.cells n).toList) hs (row_blk hr) hρ hw (by omega) (by rw [hzc']; simp) (by rw [hzc']; simp [hzl]; omega)
                (fun j hj => by have := hr2.2.1 j hj; rw [← hzc'] at this; simpa [Array.getD_eq_getD_getElem?] using this) hr2.2.2
              refine ⟨w', ?_, e2, e3, rfl⟩
              obtain ⟨m, rfl⟩ := Nat.exists_eq_succ_of_ne_zero hn0
              simp [Builtin.clear_, run_underlying hu, run_zeroValue z1, e1]
      · cases ev
  | _ => simp at ev

theorem del_ok {t kt et : TypeId} {ty : TypeId} (hs : SR ρ I h w) (hm : P.underlying t = some (.map kt et)) (hb : isBasic P kt = true) (hx : VR ρ I w u X) (hy : VR ρ I w u' Y)
    (ev : evDel h (kindT P kt) X Y = some (v, h')) : ∃ w', (Builtin.delete_ #[t] ty #[u, u']).run P w = .ok (.tuple #[]) w' ∧ SR ρ I h' w' ∧ St ρ I h w ρ I h' w' ∧ v = .tup [] := by
  have hd : ∃ d, P.underlying kt = some d := by
    cases e : P.underlying kt with
    | none => simp [isBasic, e] at hb
    | some d => exact ⟨d, rfl⟩
  obtain ⟨d, hd⟩ := hd
  unfold evDel at ev
  cases X with
  | nilm =>
    simp only at ev
    split at ev
    · rename_i hk
      cases ev
      cases hx
      have ck : (Instr.checkKey true 10000 kt u').run P w = .ok () w := checkKey_ok (n := 9999) hb hk hy true
      exact ⟨w, by simp [Builtin.delete_, run_underlying hm, ck], hs, .refl, rfl⟩
    · cases ev
  | mp i =>
    simp only at ev
    cases hbk : h.blk i with
    | none => simp [hbk] at ev
    | some B =>
      cases B with
      | cells cs => simp [hbk] at ev
      | loop st => simp [hbk] at ev
      | map es =>
        simp only [hbk] at ev
        split at ev
        · rename_i hk
          have ck : ∀ e, (Instr.checkKey e 10000 kt u').run P w = .ok () w := fun e => checkKey_ok (n := 9999) hb hk hy e
          cases hx with
          | mp hρ =>
            rename_i b o
            obtain ⟨M, clock, g1, g2, g3⟩ := own_map hs hbk hρ
            have wr : ∀ (M' : Array MapEntry) (c' : Nat) (es' : List (PV × PV)), M'.size = es'.length → (∀ j (hj : j < es'.length) (hj' : j < M'.size), VR ρ I w M'[j].key es'[j].1 ∧ VR ρ I w M'[j].val es'[j].2) →
                SR ρ I (h.set i (.map es')) { w with heap := w.heap.setIfInBounds b (.map M' c') } ∧ St ρ I h w ρ I (h.set i (.map es')) { w with heap := w.heap.setIfInBounds b (.map M' c') } := by
              intro M' c' es' e1 e2
              refine hs.wrote (by rw [hbk]; simp) hρ rfl rfl rfl (by simp) (fun q hq => (Go.MapKept.heap_set g1).2 q hq) (fun C T f e => by rw [g1] at e; cases e) (.map g1) fun st => ?_
              exact ⟨M', c', (Go.MapKept.heap_set g1).1, e1, fun j hj hj' => ⟨(e2 j hj hj').1.step hs st, (e2 j hj hj').2.step hs st⟩⟩
            cases hf : findK Y es 0 with
            | none => simp [hf] at ev
            | some r =>
              have hfind := findNow_ok (P := P) hd hb hk hy es M.toList 0 r (by simpa using g2) (fun j hj hj' => by simpa using g3 j hj (by simpa using hj')) hf
              rcases hfind with ⟨rfl, q2⟩ | ⟨j, x, y, e, rfl, q2, q3, q4, q5⟩
              · simp only [hf] at ev
                cases ev
                obtain ⟨k1, k2⟩ := wr M clock es g2 g3
                have heq : h.set i (.map es) = h := by
                  refine AH.ext' ?_ ?_ ?_ rfl
                  · rfl
                  · rfl
                  · intro j
                    rw [AH.set_blk]
                    by_cases q : j = i
                    · rw [if_pos q, q, hbk]
                    · rw [if_neg q]
                rw [heq] at k1 k2
                refine ⟨_, ?_, k1, k2, rfl⟩
                simp [Builtin.delete_, run_underlying hm, Go.MapKept.run_getObj_map g1, ck, Go.MapKept.run_findKey (P := P) (w := w) hd q2, Go.MapKept.run_setObj_map _ g1]
              · simp only [hf] at ev
                cases ev
                have hjl : j < M.size := by
                  have := (List.getElem?_eq_some_iff.1 q4).1
                  simpa using this
                have hME : M.eraseIdxIfInBounds j = M.eraseIdx j hjl := by unfold Array.eraseIdxIfInBounds; rw [dif_pos hjl]
                obtain ⟨k1, k2⟩ := wr (M.eraseIdxIfInBounds j) clock (es.eraseIdx j) (by rw [hME, Array.size_eraseIdx, List.length_eraseIdx_of_lt (by omega), g2]) (fun k hk' hk'' => by
                  have hk3 : k < M.size - 1 := by rw [hME, Array.size_eraseIdx] at hk''; exact hk''
                  have e1 : (M.eraseIdxIfInBounds j)[k] = if k < j then M[k] else M[k + 1] := by
                    simp only [hME, Array.getElem_eraseIdx]
                    split <;> rfl
                  have e2 : (es.eraseIdx j)[k] = if hkj : k < j then es[k]'(by omega) else es[k + 1]'(by omega) := by
                    rw [List.getElem_eraseIdx]
                  rw [e1, e2]
                  by_cases q : k < j
                  · rw [if_pos q, dif_pos q]; exact g3 k (by omega) (by omega)
                  · rw [if_neg q, dif_neg q]; exact g3 (k + 1) (by omega) (by omega))
                simp only [Nat.zero_add]
                refine ⟨_, ?_, k1, k2, by first | rfl | trivial⟩
                simp [Builtin.delete_, run_underlying hm, Go.MapKept.run_getObj_map g1, ck, Go.MapKept.run_findKey (P := P) (w := w) hd q2, Go.MapKept.run_setObj_map _ g1]
        · cases ev
  | _ => simp at ev

omit [LoopSpec] in
theorem extB_inv {f : Nat} {m : Bool} (e : extB P f = some m) : ∃ fn, P.funcs[f]? = some fn ∧ fn.body.isNone = true ∧ fn.name = (if m then "internal/bytealg.CountString" else "internal/bytealg.IndexByteString") ∧ Extern.findNext fn = none := by
  unfold extB at e
  split at e
  case h_2 => cases e
  rename_i fn hfn
  split at e
  case isFalse => cases e
  rename_i hc
  simp only [Bool.and_eq_true, Option.isNone_iff_eq_none] at hc
  split at e
  · rename_i h1
    cases e
    exact ⟨fn, hfn, by rw [hc.1]; rfl, by simpa using h1, hc.2⟩
  · split at e
    · rename_i h1
      cases e
      exact ⟨fn, hfn, by rw [hc.1]; rfl, by simpa using h1, hc.2⟩
    · cases e

omit [LoopSpec] in
theorem find_extB {fn : Func} {m : Bool} (h : fn.name = (if m then "internal/bytealg.CountString" else "internal/bytealg.IndexByteString")) : Extern.find fn = some (if m then Extern.BytealgCount.count else Extern.BytealgIndexByte.indexByte) := by
  cases m with
  | false =>
    simp only [Bool.false_eq_true, if_false] at h ⊢
    have a : Extern.allGenericRows.lookup "internal/bytealg.IndexByteString" = none := by kernel_rfl
    have b : Extern.allTypedRows.lookup "internal/bytealg.IndexByteString" = none := by kernel_rfl
    have c : Extern.allRows.lookup "internal/bytealg.IndexByteString" = some Extern.BytealgIndexByte.indexByte := by kernel_rfl
    simp [Extern.find, h, a, b, c]
  | true =>
    simp only [if_true] at h ⊢
    have a : Extern.allGenericRows.lookup "internal/bytealg.CountString" = none := by kernel_rfl
    have b : Extern.allTypedRows.lookup "internal/bytealg.CountString" = none := by kernel_rfl
    have c : Extern.allRows.lookup "internal/bytealg.CountString" = some Extern.BytealgCount.count := by kernel_rfl
    simp [Extern.find, h, a, b, c]

omit [LoopSpec] in
theorem firstB_eq (c : UInt8) : ∀ (l : List UInt8) (k : Nat), firstB c k l = match (List.range l.length).find? (fun i => l[i]! == c) with | some i => ((k + i : Nat) : Int) | none => -1
  | [], k => rfl
  | b :: r, k => by
    rw [firstB, List.length_cons, List.range_succ_eq_map, List.find?_cons]
    have h0 : ((b :: r)[0]! == c) = (b == c) := by simp
    rw [h0]
    cases hb : b == c with
    | true => simp
    | false =>
      simp only [Bool.false_eq_true, if_false]
      rw [firstB_eq c r (k + 1), List.find?_map]
      have : ((fun i => (b :: r)[i]! == c) ∘ Nat.succ) = fun i => r[i]! == c := by
        funext i; simp
      rw [this]
      cases (List.range r.length).find? (fun i => r[i]! == c) with
      | none => rfl
      | some i => simp only [Option.map_some]; congr 1; omega

omit [LoopSpec] in
theorem firstIdx_eq (s : ByteArray) (c : UInt8) : firstIdx s c = firstB c 0 s.data.toList := by
  rw [firstB_eq]
  unfold firstIdx
  have h1 : s.size = s.data.toList.length := by
    show s.data.size = s.data.toList.length
    exact Array.length_toList.symm
  have h2 : (fun (i : Nat) => s[i]! == c) = fun (i : Nat) => s.data.toList[i]! == c := by
    funext i
    congr 1
    by_cases hi : i < s.size
    · rw [getElem!_pos s i hi, getElem!_pos s.data.toList i (by rw [← h1]; exact hi)]
      rfl
    · rw [getElem!_neg s i hi, getElem!_neg s.data.toList i (by rw [← h1]; exact hi)]
  rw [h1, h2]
  cases (List.range s.data.toList.length).find? fun i => s.data.toList[i]! == c <;> simp

/-- Every operation but a call. -/
theorem op_out {o : Oper} {c : COp} {ow : Nat} (hc : compOp P ow o.op = some c) (hf : FR Bo ρ I w nt a s) (hs : SR ρ I h w) (ev : evOp call c s h = some (v, h')) (hn : ∀ c', o.op = .call c' → c.notCall = true) : Out ρ I h w v h' ((execOp a.eval o).run P w) := by
  cases ho : o.op with
  | move x =>
    rw [ho] at hc
    obtain ⟨X, hX, rfl⟩ := opd_map hc
    cases ev
    exact .same (by simp [execOp, ho]) hs (opd_vr hX hf)
  | assign x =>
    rw [ho] at hc
    obtain ⟨X, hX, rfl⟩ := opd_map hc
    cases ev
    exact .same (by simp [execOp, ho]) hs (opd_vr hX hf)
  | pick x y z =>
    rw [ho] at hc
    simp only [compOp] at hc
    split at hc
    · rename_i X Y Z hX hY hZ
      cases hc
      simp only [evOp] at ev
      split at ev
      · rename_i t ht
        cases ev
        have hx := opd_vr hX hf
        rw [ht] at hx
        have hb := hx.bool_inv
        refine .same (u := if t then a.eval y else a.eval z) ?_ hs ?_
        · simp only [execOp, ho, hb, asBool]
          cases t <;> simp
        · cases t
          · exact opd_vr hZ hf
          · exact opd_vr hY hf
      · cases ev
    · cases hc
  | alloc t =>
    rw [ho] at hc
    simp only [compOp, Option.map_eq_some_iff] at hc
    obtain ⟨zs, hz, rfl⟩ := hc
    obtain ⟨z, z1, z2⟩ := zeroCells_inv hz
    cases ev
    simp only [execOp, ho]
    exact alloc_out hs z1 z2
  | box t x =>
    rw [ho] at hc
    simp only [compOp] at hc
    obtain ⟨X, hX, hc⟩ := opd_map hc
    simp only [execOp, ho]
    by_cases how : ow = 1
    case pos =>
      simp only [how, if_true] at hc
      subst hc
      simp only [evOp] at ev
      split at ev
      · rename_i hk
        cases ev
        exact box_out hs (opd_vr hX hf) hk
      · cases ev
    case neg =>
      simp only [how, if_false] at hc
      by_cases how2 : ow = 2
      · simp only [how2, if_true] at hc
        subst hc
        simp only [evOp] at ev
        split at ev
        · rename_i hk
          cases ev
          obtain ⟨p, w', ρ', k1, k2, k3, k4, b, C, f, k5, k6⟩ := boxT_out (P := P) (T := t) hs (opd_vr hX hf) hk
          exact outN k1 (k2.tagged _ _) (k3.tagged k5 k6) k4
        · cases ev
      simp only [how2, if_false] at hc
      subst hc
      simp only [evOp] at ev
      split at ev
      · rename_i hk
        cases ev
        exact boxi_out hs (opd_vr hX hf) hk
      · cases ev
  | makeInterface t x =>
    rw [ho] at hc
    simp only [compOp] at hc
    split at hc
    case isFalse => cases hc
    rename_i hcc
    obtain ⟨X, hX, rfl⟩ := opd_map hc
    obtain ⟨e, rfl⟩ := keep_inv ev
    cases e
    simp only [execOp, ho]
    exact outS (run_makeInterface w t (a.eval x) hcc) hs (.ifc (opd_vr hX hf))
  | typeAssert x xt t ok =>
    rw [ho] at hc
    simp only [compOp] at hc
    split at hc
    case isFalse => cases hc
    rename_i hcc
    obtain ⟨X, hX, rfl⟩ := opd_map hc
    obtain ⟨e, rfl⟩ := keep_inv ev
    simp only [execOp, ho]
    have hv := opd_vr hX hf
    split at e
    case h_2 => cases e
    rename_i t' v0 hxv
    split at e
    case isFalse => cases e
    rename_i htt
    subst htt
    cases e
    rw [hxv] at hv
    generalize a.eval x = ux at hv
    cases hv with
    | ifc hv =>
      rename_i u0
      have hrun : (Instr.typeAssert (.iface t' u0) xt t' ok).run P w = .ok (if ok then .tuple #[u0, .bool true] else u0) w := by
        unfold Program.concrete at hcc
        unfold Instr.typeAssert
        cases hu : P.underlying t' with
        | none => simp [hu] at hcc
        | some d =>
          rw [hu] at hcc
          cases d <;> simp only [Bool.false_eq_true] at hcc <;> simp [Sem.run_bind, run_underlying hu]
      cases ok with
      | false => exact outS hrun hs hv
      | true =>
        refine outS hrun hs (.tup rfl fun j hj => ?_)
        have hj2 : j < 2 := hj
        rcases Nat.lt_or_ge j 1 with q | q
        · have : j = 0 := by omega
          subst this; exact hv
        · have : j = 1 := by omega
          subst this; exact .bool true
  | build t parts =>
    rw [ho] at hc
    simp only [compOp] at hc
    simp only [execOp, ho]
    split at hc
    · rename_i zs fs hz hu
      simp only [Option.bind_eq_some_iff] at hc
      obtain ⟨ps, hp, hc⟩ := hc
      split at hc
      · rename_i hall
        cases hc
        obtain ⟨e, rfl⟩ := keep_inv ev
        simp only [Option.map_eq_some_iff] at e
        obtain ⟨cs, e1, rfl⟩ := e
        obtain ⟨C, c1, c2⟩ := build_struct (P := P) hf hu hz hall hp e1
        exact outS c1 hs c2.agg
      · cases hc
    · rename_i zs n e hz hu
      split at hc
      · rename_i z hz'
        simp only [Option.map_eq_some_iff] at hc
        obtain ⟨ps, hp, rfl⟩ := hc
        obtain ⟨e, rfl⟩ := keep_inv ev
        simp only [Option.map_eq_some_iff] at e
        obtain ⟨cs, e1, rfl⟩ := e
        obtain ⟨C, c1, c2⟩ := build_array (P := P) hf hu hz hz' hp e1
        exact outS c1 hs c2.agg
      · cases hc
    · cases hc
  | buildSlice t n parts =>
    rw [ho] at hc
    simp only [compOp] at hc
    simp only [execOp, ho]
    split at hc
    · rename_i e hu
      split at hc
      · rename_i z zs hz hzc
        split at hc
        · rename_i hcond
          simp only [Option.map_eq_some_iff] at hc
          obtain ⟨ps, hp, hc⟩ := hc
          by_cases how : ow = 1
          case pos =>
            simp only [how, if_true] at hc
            subst hc
            simp only [evOp] at ev
            split at ev
            · rename_i cs hcs
              cases ev
              obtain ⟨C, c1, c2⟩ := bslice_out (P := P) hs hf hu hz hzc hcond hp hcs
              obtain ⟨g1, g2⟩ := hs.alloc (T := e) (C := C) (cs := cs) (Nat.le_of_eq c2.1.symm) c2.2.1 c2.2.2
              refine outN c1 g2 g1 ?_
              have hlen : C.size = n * z := by
                rw [c2.1]
                have : ∀ (l : List (Nat × Nat × PV)) (xs ys : List PV), fillP xs l = some ys → ys.length = xs.length := by
                  intro l
                  induction l with
                  | nil => intro xs ys e; cases e; rfl
                  | cons p l ih =>
                    intro xs ys e
                    obtain ⟨off, n, x⟩ := p
                    simp only [fillP] at e
                    split at e
                    · rename_i hc
                      rw [ih _ _ e, splice_len (by omega)]
                    · cases e
                rw [this _ _ _ hcs]
                simp [hcond.2.1]
              have : VR (upd ρ h.nx (w.heap.size, 0)) I (w.alloc (.cells C e)) (.slice (some ⟨w.heap.size, 0 + 0, none⟩) n n) (.rf z h.nx 0 n) :=
                .rf (by simp [upd]) (Nat.le_refl _) (heap_alloc_new w _) (by omega)
              simpa using this
            · cases ev
          case neg =>
            simp only [how, if_false] at hc
            subst hc
            obtain ⟨e', rfl⟩ := keep_inv ev
            simp only [Option.map_eq_some_iff] at e'
            obtain ⟨cs, hcs, rfl⟩ := e'
            obtain ⟨C, c1, c2⟩ := bslice_out (P := P) hs hf hu hz hzc hcond hp hcs
            obtain ⟨g1, g2⟩ := hs.allocI (.cells C e)
            refine outN c1 g2 g1 ?_
            by_cases hn0 : n = 0
            · rw [if_pos hn0, hn0]; exact .emp
            · rw [if_neg hn0]
              refine .sl (fun j => C.getD j undef) (Nat.le_refl _) (fun _ => ⟨w.heap.size, 0, rfl, .inr rfl, fun j hj => ?_⟩) (fun j hj => (c2.2.1 j hj).step hs g2) c2.2.2
              rw [Nat.zero_add, World.cell?_alloc_new]
              have := c2.1
              simp [Array.getD, show j < C.size by omega]
        · cases hc
      · cases hc
    · cases hc
  | load t x =>
    rw [ho] at hc
    simp only [compOp] at hc
    split at hc
    · rename_i g n X hg hz hX
      cases hc
      obtain ⟨e, rfl⟩ := keep_inv ev
      simp only [execOp, ho]
      obtain ⟨x', r1, r2⟩ := load_ok (P := P) hg hz hs (opd_vr hX hf) e
      exact outS r1 hs r2
    · cases hc
  | store t x y =>
    rw [ho] at hc
    simp only [compOp] at hc
    split at hc
    · rename_i n X Y hz hX hY
      cases hc
      simp only [evOp] at ev
      split at ev
      · rename_i h2 hw
        cases ev
        simp only [execOp, ho]
        obtain ⟨w', r1, r2, r3⟩ := store_ok (P := P) hs hz (opd_vr hX hf) (opd_vr hY hf) hw
        exact outU r1 r3 r2
      · cases ev
    · cases hc
  | nilCheck x =>
    rw [ho] at hc
    obtain ⟨X, hX, rfl⟩ := opd_map hc
    simp only [evOp] at ev
    split at ev
    · rename_i hnil
      cases ev
      exact .same (nilchk_ok ho hnil (opd_vr hX hf)) hs (opd_vr hX hf)
    · cases ev
  | binOp op t x y t' =>
    rw [ho] at hc
    exact bin_out hs hf ho hc ev
  | unOp op t x =>
    rw [ho] at hc
    obtain ⟨X, hX, rfl⟩ := opd_map hc
    obtain ⟨e, rfl⟩ := keep_inv ev
    simp only [execOp, ho]
    obtain ⟨r1, r2⟩ := un_ok (P := P) e (opd_vr hX hf)
    exact outS r1 hs r2
  | convert p q x =>
    rw [ho] at hc
    simp only [compOp] at hc
    simp only [execOp, ho]
    split at hc
    · rename_i k1 k X h1 h2 hX
      cases hc
      obtain ⟨e, rfl⟩ := keep_inv ev
      split at e
      · rename_i k' n hn'
        have hx := opd_vr hX hf
        rw [hn'] at hx
        have hi := hx.int_inv
        cases e
        refine outS (x := .int k (k.wrap n)) ?_ hs (.int _ _)
        rw [hi]
        simp [convert, run_underlying h1, run_underlying h2, Conv.intToInt]
      · cases e
    · rename_i X h1 h2 hX
      cases hc
      obtain ⟨e, rfl⟩ := keep_inv ev
      split at e
      · rename_i b hb'
        have hx := opd_vr hX hf
        rw [hb'] at hx
        have hi := hx.str_inv
        cases e
        refine outS (x := .string b) ?_ hs (.str _)
        rw [hi]
        simp [convert, run_underlying h1, run_underlying h2]
      · cases e
    · rename_i e0 X h1 h2 hX
      split at hc
      case h_2 => cases hc
      rename_i h3
      cases hc
      obtain ⟨e, rfl⟩ := keep_inv ev
      split at e
      · rename_i b hb'
        have hx := opd_vr hX hf
        rw [hb'] at hx
        have hi := hx.str_inv
        cases e
        rw [hi]
        obtain ⟨r, w', I', r1, r2, r3, r4⟩ := s2b_ok (P := P) (b := b) hs h1 h2 h3
        exact outN r1 r2 r3 r4
      · cases e
    · cases hc
  | makeFunc f first cap =>
    rw [ho] at hc
    cases f with
    | func f =>
      simp only [compOp] at hc
      split at hc
      · rename_i fs cs h1 h2
        cases hc
        cases ev
        simp only [execOp, ho]
        obtain ⟨a1, a2⟩ := opds_vr _ _ h1 hf
        obtain ⟨b1, b2⟩ := opds_vr _ _ h2 hf
        refine outS (x := .func (.func f) (first.map a.eval) (cap.map a.eval)) (by simp [Instr.makeFunc]) hs (.fn ?_ ?_ (fun j hj => ?_) (fun j hj => ?_))
        · simpa using a1
        · simpa using b1
        · have := a2 j hj; simpa [Array.getD_eq_getD_getElem?] using this
        · have := b2 j hj; simpa [Array.getD_eq_getD_getElem?] using this
      · cases hc
    | _ => simp [compOp] at hc
  | makeMap t r =>
    rw [ho] at hc
    cases r with
    | some x => simp [compOp] at hc
    | none =>
      simp only [compOp] at hc
      cases hc
      cases ev
      simp only [execOp, ho]
      obtain ⟨g1, g2⟩ := hs.new (w' := w.alloc (.map #[] 0)) (B := .map []) rfl rfl rfl (World.size_alloc _ _) (fun b hb => RowKit.Below.heap_alloc _ _ _ hb)
        fun st => ⟨#[], 0, heap_alloc_new _ _, rfl, fun j hj => absurd hj (Nat.not_lt_zero _)⟩
      refine outN (x := .map (some w.heap.size)) (w' := w.alloc (.map #[] 0)) (by simp [Instr.makeMap]) g2 g1 (.mp (o := 0) (by simp [upd]))
  | makeSlice t l c =>
    rw [ho] at hc
    simp only [compOp] at hc
    simp only [execOp, ho]
    split at hc
    · rename_i e hu
      split at hc
      · rename_i z b zs L C hz hb hzc hL hC
        split at hc
        · rename_i hcond
          by_cases how : ow = 1
          · rw [if_pos how] at hc
            cases hc
            obtain ⟨ev', rfl⟩ := keep_inv ev
            split at ev'
            · rename_i l' c' h1 h2
              split at ev'
              · rename_i hok
                cases ev'
                have hl := opd_vr hL hf
                have hc' := opd_vr hC hf
                rw [h1] at hl
                rw [h2] at hc'
                rw [hl.int_inv, hc'.int_inv]
                obtain ⟨r, w', ρ', I', r1, r2, r3, r4⟩ := mkslI_ok (P := P) hs hu hz hb hzc hcond hok
                exact outN r1 r2 r3 r4
              · cases ev'
            · cases ev'
          rw [if_neg how] at hc
          cases hc
          simp only [evOp] at ev
          split at ev
          · rename_i l' c' h1 h2
            split at ev
            · rename_i hok
              cases ev
              have hl := opd_vr hL hf
              have hc' := opd_vr hC hf
              rw [h1] at hl
              rw [h2] at hc'
              rw [hl.int_inv, hc'.int_inv]
              obtain ⟨r, w', ρ', I', r1, r2, r3, r4⟩ := mkslice_ok (P := P) hs hu hz hb hzc hcond hok
              exact outN r1 r2 r3 r4
            · cases ev
          · cases ev
        · cases hc
      · cases hc
    · cases hc
  | slice t x lo hi mx =>
    rw [ho] at hc
    simp only [compOp] at hc
    simp only [execOp, ho]
    split at hc
    · rename_i e X Lo Hi Mx hu hX hlo hhi hmx
      simp only [Option.map_eq_some_iff] at hc
      obtain ⟨z, hz, rfl⟩ := hc
      obtain ⟨ev', rfl⟩ := keep_inv ev
      cases mx with
      | none =>
        simp [opdO] at hmx
        subst hmx
        obtain ⟨r, r1, r2⟩ := slice2_ok (P := P) hu hz hlo hhi hf (opd_vr hX hf) ev'
        exact outS r1 hs r2
      | some y =>
        simp only [opdO, Option.map_eq_some_iff] at hmx
        obtain ⟨Y, hY, rfl⟩ := hmx
        obtain ⟨r, r1, r2⟩ := slice3_ok (P := P) hu hz hlo hhi hY hf (opd_vr hX hf) ev'
        exact outS r1 hs r2
    · rename_i X Lo Hi hu hX hlo hhi hmx
      cases hc
      obtain ⟨ev', rfl⟩ := keep_inv ev
      cases mx with
      | none =>
        obtain ⟨r, r1, r2⟩ := slstr_ok (P := P) hu hlo hhi hf (opd_vr hX hf) ev'
        exact outS r1 hs r2
      | some y =>
        simp only [opdO, Option.map_eq_some_iff] at hmx
        obtain ⟨Y, hY, hc⟩ := hmx
        cases hc
    · cases hc
  | fieldAddr t x i =>
    rw [ho] at hc
    simp only [compOp] at hc
    simp only [execOp, ho]
    split at hc
    · rename_i fs X hu hX
      split at hc
      · rename_i f hfi
        split at hc
        · rename_i n hn'
          split at hc
          · cases hc
          · rename_i h0
            cases hc
            obtain ⟨e, rfl⟩ := keep_inv ev
            obtain ⟨b, o', p1, p2⟩ := ptr_add (opd_vr hX hf) e
            rw [p1]
            exact outS (field_run (P := P) hu hfi hn' h0) hs p2
        · cases hc
      · cases hc
    · cases hc
  | field t x i =>
    rw [ho] at hc
    simp only [compOp] at hc
    simp only [execOp, ho]
    split at hc
    · rename_i fs X hu hX
      split at hc
      · rename_i f hfi
        split at hc
        · rename_i g n hg hn'
          cases hc
          obtain ⟨e, rfl⟩ := keep_inv ev
          split at e
          · rename_i cs hcs
            have hx := opd_vr hX hf
            rw [hcs] at hx
            obtain ⟨C, r, r1, r2, r3⟩ := part_ok (P := P) hg hn' hx e
            rw [r1]
            refine outS (x := r) ?_ hs r3
            simp [Instr.field, run_underlying hu, hfi, asAgg, r2]
          · cases e
        · cases hc
      · cases hc
    · cases hc
  | indexAddr t x i =>
    rw [ho] at hc
    simp only [compOp] at hc
    simp only [execOp, ho]
    split at hc
    · rename_i e X J hu hX hJ
      simp only [Option.map_eq_some_iff] at hc
      obtain ⟨z, hz, rfl⟩ := hc
      obtain ⟨e', rfl⟩ := keep_inv ev
      split at e'
      · rename_i k j hj'
        have hx := opd_vr hX hf
        have hj := opd_vr hJ hf
        rw [hj'] at hj
        rw [hj.int_inv]
        generalize X.val s = XV at hx e'
        generalize a.eval x = ux at hx
        cases XV with
        | sl n cs =>
          simp only [evIdx] at e'
          split at e'
          · rename_i hb
            obtain ⟨b1, b2, b3, b4⟩ := hb
            cases e'
            cases hx with
            | sl us hn hA hv ho' =>
              rename_i A c
              have hcs : cs ≠ [] := by
                rintro rfl
                simp only [List.length_nil] at b3
                rcases Nat.mul_eq_zero.1 b3.symm with q | q <;> omega
              obtain ⟨b, o', rfl, hI, hc⟩ := hA hcs
              refine outS (idx_run (P := P) (c := c) hu hz b1 b2) hs (.pi (fun q => us (j.toNat * z + q)) hI (fun q hq => ?_) (fun q hq => ?_) (fun y hy => ho' y (List.mem_of_mem_drop hy)))
              · rw [List.length_drop] at hq
                rw [Nat.add_assoc]
                exact hc _ (by omega)
              · rw [List.getElem_drop]
                exact hv _ _
          · cases e'
        | rf z' b' o' n =>
          simp only [evIdx] at e'
          split at e'
          · rename_i hb
            obtain ⟨b1, b2, rfl⟩ := hb
            cases e'
            cases hx with
            | rf hρ hn hw hc =>
              refine outS (idx_run (P := P) hu hz b1 b2) hs ?_
              rw [Nat.add_assoc]
              exact .pt hρ
            | rf0 => omega
          · cases e'
        | _ => simp [evIdx] at e'
      · cases e'
    · rename_i n e X J hu hX hJ
      simp only [Option.map_eq_some_iff] at hc
      obtain ⟨z, hz, rfl⟩ := hc
      obtain ⟨e', rfl⟩ := keep_inv ev
      split at e'
      · rename_i k j hj'
        split at e'
        · rename_i hb
          have hj := opd_vr hJ hf
          rw [hj'] at hj
          rw [hj.int_inv]
          obtain ⟨b, o', p1, p2⟩ := ptr_add (opd_vr hX hf) e'
          rw [p1]
          exact outS (idxp_run (P := P) hu hz hb.1 hb.2) hs p2
        · cases e'
      · cases e'
    · cases hc
  | index t x i =>
    rw [ho] at hc
    simp only [compOp] at hc
    simp only [execOp, ho]
    split at hc
    · rename_i n e X J hu hX hJ
      split at hc
      · rename_i g z hg hz
        cases hc
        obtain ⟨e', rfl⟩ := keep_inv ev
        split at e'
        · rename_i cs k j hx' hj'
          split at e'
          · rename_i hb
            have hx := opd_vr hX hf
            have hj := opd_vr hJ hf
            rw [hx'] at hx
            rw [hj'] at hj
            rw [hj.int_inv]
            obtain ⟨C, r, r1, r2, r3⟩ := part_ok (P := P) hg hz hx e'
            rw [r1]
            refine outS (x := r) ?_ hs r3
            simp [Instr.index, asIntOf, run_underlying hu, hb.1, hb.2, run_sizeOf hz, r2]
          · cases e'
        · cases e'
      · cases hc
    · rename_i X J hu hX hJ
      cases hc
      obtain ⟨e', rfl⟩ := keep_inv ev
      split at e'
      · rename_i b k j hx' hj'
        split at e'
        · rename_i h0
          split at e'
          · rename_i c hcb
            cases e'
            have hx := opd_vr hX hf
            have hj := opd_vr hJ hf
            rw [hx'] at hx
            rw [hj'] at hj
            rw [hj.int_inv, hx.str_inv]
            refine outS (x := .int .u8 c.toNat) ?_ hs (.int _ _)
            simp [Instr.index, asIntOf, run_underlying hu, h0, hcb]
          · cases e'
        · cases e'
      · cases e'
    · cases hc
  | lookup t m k ok =>
    rw [ho] at hc
    simp only [compOp] at hc
    simp only [execOp, ho]
    split at hc
    · rename_i kt et M K hu hM hK
      split at hc
      · rename_i hb
        simp only [Option.map_eq_some_iff, Option.bind_eq_some_iff] at hc
        obtain ⟨zp, ⟨zv, hz, hzp⟩, rfl⟩ := hc
        obtain ⟨e', rfl⟩ := keep_inv ev
        obtain ⟨r, r1, r2⟩ := lkp_ok (P := P) (ok := ok) hs hu hb hz hzp (opd_vr hM hf) (opd_vr hK hf) e'
        exact outS r1 hs r2
      · cases hc
    · cases hc
  | mapUpdate t m k x =>
    rw [ho] at hc
    simp only [compOp] at hc
    simp only [execOp, ho]
    split at hc
    · rename_i kt et M K V hu hM hK hV
      split at hc
      · rename_i hb
        cases hc
        obtain ⟨w', r1, r2, r3, rfl⟩ := upd_ok (P := P) hs hu hb (opd_vr hM hf) (opd_vr hK hf) (opd_vr hV hf) ev
        exact outU r1 r3 r2
      · cases hc
    · cases hc
  | insert t m k x =>
    rw [ho] at hc
    simp only [compOp] at hc
    simp only [execOp, ho]
    split at hc
    · rename_i kt et M K V hu hM hK hV
      split at hc
      · rename_i hb
        cases hc
        obtain ⟨w', r1, r2, r3, rfl⟩ := upd_ok (P := P) hs hu hb (opd_vr hM hf) (opd_vr hK hf) (opd_vr hV hf) ev
        exact outU r1 r3 r2
      · cases hc
    · cases hc
  | extract x i =>
    rw [ho] at hc
    obtain ⟨X, hX, rfl⟩ := opd_map hc
    obtain ⟨e', rfl⟩ := keep_inv ev
    simp only [execOp, ho]
    split at e'
    · rename_i vs hvs
      have hx := opd_vr hX hf
      rw [hvs] at hx
      generalize a.eval x = ux at hx
      cases hx with
      | tup t1 t2 =>
        rename_i C
        have hlt : i < vs.length := by
          rcases Nat.lt_or_ge i vs.length with q | q
          · exact q
          · rw [List.getElem?_eq_none q] at e'; cases e'
        rw [List.getElem?_eq_getElem hlt] at e'
        cases e'
        have hci : C[i]? = some (C.getD i undef) := by simp [Array.getD, show i < C.size by omega]
        exact outS (x := C.getD i undef) (by simp only [Instr.extract, hci]; rfl) hs (t2 i hlt)
    · cases e'
  | call c' =>
    have hn := hn c' ho
    rw [ho] at hc
    simp only [compOp, compCall] at hc
    split at hc
    · rename_i f hcal
      split at hc
      · rename_i md hidx
        split at hc
        case h_2 => cases hc
        rename_i x y hxy
        cases hc
        obtain ⟨e, rfl⟩ := keep_inv ev
        obtain ⟨fn, i1, i2, i3, i4⟩ := extB_inv hidx
        have hv := opds_vr _ _ hxy hf
        obtain ⟨cal, args, ats⟩ := c'
        simp only at hcal hv hxy
        have hsz : args.toList.length = 2 := by have := hv.1; simpa using this
        obtain ⟨x0, y0, hl⟩ : ∃ x0 y0, args.toList = [x0, y0] := by
          cases hl : args.toList with
          | nil => rw [hl] at hsz; simp at hsz
          | cons x0 r => cases r with
            | nil => rw [hl] at hsz; simp at hsz
            | cons y0 r => cases r with
              | nil => exact ⟨x0, y0, rfl⟩
              | cons z r => rw [hl] at hsz; simp at hsz
        have hargs : args = #[x0, y0] := by rw [← Array.toList_inj]; exact hl
        subst hargs
        have h0 := hv.2 0 (by simp)
        have h1 := hv.2 1 (by simp)
        simp at h0 h1
        split at e
        case h_2 => cases e
        rename_i b cc hb hcc
        cases e
        rw [hb] at h0
        rw [hcc] at h1
        generalize hux : a.eval x0 = ux at h0
        generalize huy : a.eval y0 = uy at h1
        cases h0
        cases h1
        have hrun := run_callFunc_extern (P := P) i1 (by rw [i3]; cases md <;> rfl) i2 i4 (find_extB i3) #[.string b, .int .u8 cc] w
        have hval : Sem.run P ((if md then Extern.BytealgCount.count else Extern.BytealgIndexByte.indexByte) #[.string b, .int .u8 cc]) w = .ok (.int .i64 (if md then (Lib.countByte b.data.toList cc.toNat.toUInt8 : Int) else firstB cc.toNat.toUInt8 0 b.data.toList)) w := by
          cases md with
          | true => simp only [if_true]; exact Lib.run_countString _ _ _
          | false => simp only [Bool.false_eq_true, if_false]; rw [run_indexByte_string, firstIdx_eq]
        rw [hval] at hrun
        have hrun' : (execOp a.eval o).run P w = .ok (.value (.int .i64 (if md then (Lib.countByte b.data.toList cc.toNat.toUInt8 : Int) else firstB cc.toNat.toUInt8 0 b.data.toList))) w := by
          have hef : a.eval (.func f) = .func (.func f) #[] #[] := rfl
          simp only [execOp, ho, resolve, hcal, Deferred.ofValue, hef]
          simp [invoke, hux, huy]
          simpa [Result.andThen] using hrun
        exact .same hrun' hs (.int _ _)
      split at hc
      · obtain ⟨X, hX, rfl⟩ := Option.map_eq_some_iff.1 hc
        cases hn
      · cases hc
    · split at hc
      · cases hc; revert hn; split <;> (intro hn; cases hn)
      · cases hc
    · cases hc
    · rename_i b hcal
      have hres : ∃ cs, ∀ args : Array Value, c'.args.map a.eval = args → (execOp a.eval o).run P w = (builtin b c'.argTypes o.type cs args).run P w := by
        refine ⟨c'.args.map fun | .const _ => true | _ => false, fun args ha => ?_⟩
        simp only [execOp, ho, resolve, hcal, ha]
        simp only [Sem.run_bind, Sem.run_pure, Result.andThen_ok, invoke]
        rfl
      obtain ⟨cns, hres⟩ := hres
      obtain ⟨cal, args, ats⟩ := c'
      simp only at hcal hres hc
      have one : ∀ (x : Opd), opds args.toList = some [x] → ∃ x0, args.toList = [x0] ∧ VR ρ I w (a.eval x0) (x.val s) ∧ args.map a.eval = #[a.eval x0] := by
        intro x hx
        have hv := opds_vr _ _ hx hf
        have hsz : args.toList.length = 1 := by have := hv.1; simpa using this
        cases hl : args.toList with
        | nil => rw [hl] at hsz; cases hsz
        | cons x0 r =>
          cases r with
          | cons y r => rw [hl] at hsz; simp at hsz
          | nil =>
            refine ⟨x0, rfl, ?_, ?_⟩
            · have := hv.2 0 (by simp)
              rw [hl] at this
              simpa using this
            · have : args = #[x0] := by rw [← Array.toList_inj]; exact hl
              rw [this]; simp
      have two : ∀ (x y : Opd), opds args.toList = some [x, y] → ∃ x0 y0, args.toList = [x0, y0] ∧ VR ρ I w (a.eval x0) (x.val s) ∧ VR ρ I w (a.eval y0) (y.val s) ∧ args.map a.eval = #[a.eval x0, a.eval y0] := by
        intro x y hx
        have hv := opds_vr _ _ hx hf
        have hsz : args.toList.length = 2 := by have := hv.1; simpa using this
        cases hl : args.toList with
        | nil => rw [hl] at hsz; cases hsz
        | cons x0 r =>
          cases r with
          | nil => rw [hl] at hsz; cases hsz
          | cons y0 r =>
            cases r with
            | cons z r => rw [hl] at hsz; simp at hsz
            | nil =>
              refine ⟨x0, y0, rfl, ?_, ?_, ?_⟩
              · have := hv.2 0 (by simp)
                rw [hl] at this
                simpa using this
              · have := hv.2 1 (by simp)
                rw [hl] at this
                simpa using this
              · have : args = #[x0, y0] := by rw [← Array.toList_inj]; exact hl
                rw [this]; simp
      have mm : ∀ (mx : Bool) (xs : List Opd), opds args.toList = some xs → evMM mx (xs.map (Opd.val s)) = some v →
          ∃ x y r, (args.map a.eval).toList = y :: r ∧ (r.foldlM (if mx then Builtin.max2 else Builtin.min2) y).run P w = .ok x w ∧ VR ρ I w x v := by
        intro mx xs h1 e
        have hv := opds_vr _ _ h1 hf
        unfold evMM at e
        cases xs with
        | nil => simp at e
        | cons X xs =>
          simp only [List.map_cons] at e
          cases hl : args.toList with
          | nil => rw [hl] at h1; simp [opds] at h1
          | cons x0 r =>
            have h0 := hv.2 0 (by simp)
            have hvs := hv.1
            have hv2 := hv.2
            rw [hl] at h0 hvs hv2
            simp only [List.map_cons, List.getElem_cons_zero] at h0
            have h0' : VR ρ I w (a.eval x0) (X.val s) := by simpa using h0
            split at e
            · rename_i k n r' he
              simp only [List.cons.injEq] at he
              obtain ⟨he1, rfl⟩ := he
              rw [he1] at h0'
              obtain ⟨m, rfl, r2⟩ := minmax_fold (P := P) (ρ := ρ) (I := I) (mx := mx) (ty := 0) (r.map a.eval) (xs.map (Opd.val s)) k n v (by simpa using hvs)
                (fun j hj => by have := hv2 (j + 1) (by simpa using hj); simpa using this) e
              exact ⟨.int k m, .int k n, r.map a.eval, by rw [Array.toList_map, hl, List.map_cons, h0'.int_inv], r2, .int _ _⟩
            · cases e
      have aty : ∀ d, (ats[0]?).bind P.underlying = some d → ∃ t, ats[0]? = some t ∧ P.underlying t = some d := by
        intro d hd
        simpa [Option.bind_eq_some_iff] using hd
      split at hc
      · rename_i x n he h1 h2
        cases hc
        cases ev
        obtain ⟨x0, h3, h4, h5⟩ := one x h1
        obtain ⟨t, h6, h7⟩ := aty _ h2
        rw [hres _ h5]
        refine outS (x := .int .i64 n) ?_ hs (.int _ _)
        simp [Builtin.len_, h6, run_underlying h7, goInt]
      · rename_i x h1 h2
        cases hc
        obtain ⟨e, rfl⟩ := keep_inv ev
        obtain ⟨x0, h3, h4, h5⟩ := one x h1
        obtain ⟨t, h6, h7⟩ := aty _ h2
        obtain ⟨r1, r2⟩ := len_ok (P := P) (t := t) (ty := o.type) hs (k := 0) h7 h4 e
        rw [hres _ h5]
        refine outS ?_ hs r2
        rw [← r1]
        simp [Builtin.len_, h6]
      · rename_i x e0 h1 h2
        cases hc
        obtain ⟨e, rfl⟩ := keep_inv ev
        obtain ⟨x0, h3, h4, h5⟩ := one x h1
        obtain ⟨t, h6, h7⟩ := aty _ h2
        obtain ⟨r1, r2⟩ := len_ok (P := P) (t := t) (ty := o.type) hs (k := 1) ⟨_, h7⟩ h4 e
        rw [hres _ h5]
        refine outS ?_ hs r2
        rw [← r1]
        simp [Builtin.len_, h6]
      · rename_i x k0 e0 h1 h2
        cases hc
        obtain ⟨e, rfl⟩ := keep_inv ev
        obtain ⟨x0, h3, h4, h5⟩ := one x h1
        obtain ⟨t, h6, h7⟩ := aty _ h2
        obtain ⟨r1, r2⟩ := len_ok (P := P) (t := t) (ty := o.type) hs (k := 2) ⟨_, _, h7⟩ h4 e
        rw [hres _ h5]
        refine outS ?_ hs r2
        rw [← r1]
        simp [Builtin.len_, h6]
      · rename_i x y e0 h1 h2
        split at hc
        · rename_i z by_ zv e1 hz hb hzv h8
          split at hc
          · rename_i hzs
            obtain ⟨x0, y0, h3, h4, h4', h5⟩ := two x y h1
            obtain ⟨t, h6, h7⟩ := aty _ h2
            have h9 : ∃ t1, ats[1]? = some t1 ∧ P.underlying t1 = some (.slice e1) := by simpa [Option.bind_eq_some_iff] using h8
            obtain ⟨t1, h10, h11⟩ := h9
            rw [hres _ h5]
            by_cases how : ow = 1
            · rw [if_pos how] at hc
              cases hc
              obtain ⟨r, w', ρ', I', r1, r2, r3, r4⟩ := appT_ok (P := P) (ty := o.type) (tx := t1) hs h7 (by simpa using ⟨e1, h11⟩) hz hb hzv hzs h4 h4' ev
              refine outN ?_ r2 r3 r4
              rw [← r1]
              simp [Builtin.append_, h6, h10]
            · rw [if_neg how] at hc
              cases hc
              obtain ⟨r, w', ρ', I', r1, r2, r3, r4⟩ := app_ok (P := P) (ty := o.type) hs h7 h11 hz hb hzv hzs h4 h4' ev
              refine outN ?_ r2 r3 r4
              rw [← r1]
              simp [Builtin.append_, h6, h10]
          · cases hc
        · rename_i z by_ zv hz hb hzv h8
          split at hc
          · rename_i hzs
            cases hc
            obtain ⟨x0, y0, h3, h4, h4', h5⟩ := two x y h1
            obtain ⟨t, h6, h7⟩ := aty _ h2
            have h9 : ∃ t1, ats[1]? = some t1 ∧ P.underlying t1 = some .string := by simpa [Option.bind_eq_some_iff] using h8
            obtain ⟨t1, h10, h11⟩ := h9
            rw [hres _ h5]
            obtain ⟨r, w', ρ', I', r1, r2, r3, r4⟩ := appT_ok (P := P) (ty := o.type) (tx := t1) hs h7 (by simpa using h11) hz hb hzv hzs h4 h4' ev
            refine outN ?_ r2 r3 r4
            rw [← r1]
            simp [Builtin.append_, h6, h10]
          · cases hc
        · rename_i z by_ zv k1 hz hb hzv h8
          split at hc
          · rename_i hzs
            obtain ⟨zs, hzc, rfl⟩ := Option.map_eq_some_iff.1 hc
            obtain ⟨x0, y0, h3, h4, h4', h5⟩ := two x y h1
            obtain ⟨t, h6, h7⟩ := aty _ h2
            have h9 : ∃ t1, ats[1]? = some t1 ∧ P.underlying t1 = some (.int k1) := by simpa [Option.bind_eq_some_iff] using h8
            obtain ⟨t1, h10, h11⟩ := h9
            rw [hres _ h5]
            obtain ⟨r, w', ρ', I', r1, r2, r3, r4⟩ := appz_ok (P := P) (ty := o.type) (tx := t1) hs h7 h11 hz hb hzv hzc hzs h4 h4' ev
            refine outN ?_ r2 r3 r4
            rw [← r1]
            simp [Builtin.append_, h6, h10]
          · cases hc
        · cases hc
      · rename_i x e0 h1 h2
        split at hc
        · rename_i z zs hz hzc
          cases hc
          obtain ⟨x0, h3, h4, h5⟩ := one x h1
          obtain ⟨t, h6, h7⟩ := aty _ h2
          obtain ⟨w', r1, r2, r3, rfl⟩ := clear_ok (P := P) (ty := o.type) hs h7 hz hzc h4 ev
          rw [hres _ h5]
          refine outN (x := .tuple #[]) ?_ r3 r2 VR.undef
          rw [← r1]
          simp [Builtin.clear_, h6]
        · cases hc
      · rename_i xs e0 h1 h2
        cases hc
        obtain ⟨e, rfl⟩ := keep_inv ev
        obtain ⟨x, y, r, r0, r1, r2⟩ := mm true xs h1 e
        rw [hres _ rfl]
        exact outS (by simp only [Builtin.max_, r0]; exact r1) hs r2
      · rename_i xs e0 h1 h2
        cases hc
        obtain ⟨e, rfl⟩ := keep_inv ev
        obtain ⟨x, y, r, r0, r1, r2⟩ := mm false xs h1 e
        rw [hres _ rfl]
        exact outS (by simp only [Builtin.min_, r0]; exact r1) hs r2
      · rename_i m k t0 e0 h1 h2
        split at hc
        · rename_i hb
          cases hc
          obtain ⟨x0, y0, h3, h4, h4', h5⟩ := two m k h1
          obtain ⟨t, h6, h7⟩ := aty _ h2
          obtain ⟨w', r1, r2, r3, rfl⟩ := del_ok (P := P) (ty := o.type) hs h7 hb h4 h4' ev
          rw [hres _ h5]
          refine outN (x := .tuple #[]) ?_ r3 r2 VR.undef
          rw [← r1]
          simp [Builtin.delete_, h6]
        · cases hc
      · cases hc
  | panic x =>
    rw [ho] at hc
    obtain ⟨X, hX, rfl⟩ := opd_map hc
    cases ev
  | _ => rw [ho] at hc; simp [compOp] at hc
end
end Go.Ev

/- Regions: the order in which a statement's operations are carried out does not matter where the translation let it by. -/
set_option linter.unusedVariables false
set_option linter.unusedSimpArgs false
namespace Go.Ev
variable [LoopSpec]
section
variable {call : Nat → List PV → AH → Option (PV × AH)} {pu : Nat → Bool}

/-- Every block is still there. -/
def AH.le (h h' : AH) : Prop := ∀ i B, h.blk i = some B → h'.blk i = some B

/-- Calls of the functions that leave the heap alone. -/
def PureOk (pu : Nat → Bool) (call : Nat → List PV → AH → Option (PV × AH)) : Prop :=
  (∀ f as h r h', pu f = true → call f as h = some (r, h') → h' = h ∧ ∀ h2, h.le h2 → call f as h2 = some (r, h2)) ∧
    ∀ f as h r h', pu (f + exb) = true → (∀ i, h.nx ≤ i → h.blk i = none) → call f as h = some (r, h') → h.le h'

omit [LoopSpec] in
theorem row_le {h h' : AH} (hl : h.le h') {i : Nat} {cs : List PV} (e : h.row i = some cs) : h'.row i = some cs := by
  have := hl _ _ (row_blk e)
  simp [AH.row, this]

omit [LoopSpec] in
theorem Opd.val_congr {s s' : Fr} {x : Opd} (hs : ∀ t ∈ x.slots, s t = s' t) : x.val s = x.val s' := by
  cases x with
  | t n => exact hs n (by simp [Opd.slots])
  | c v => rfl

omit [LoopSpec] in
theorem vals_congr {s s' : Fr} : ∀ {xs : List Opd}, (∀ t ∈ xs.flatMap Opd.slots, s t = s' t) → xs.map (Opd.val s) = xs.map (Opd.val s')
  | [], _ => rfl
  | x :: xs, hs => by
    simp only [List.flatMap_cons, List.mem_append] at hs
    rw [List.map_cons, List.map_cons, Opd.val_congr (fun t ht => hs t (.inl ht)), vals_congr (fun t ht => hs t (.inr ht))]

omit [LoopSpec] in
theorem parts_congr {s s' : Fr} : ∀ {ps : List (Nat × Nat × Opd)}, (∀ t ∈ ps.flatMap (fun p => p.2.2.slots), s t = s' t) → ps.map (fun p => (p.1, p.2.1, p.2.2.val s)) = ps.map (fun p => (p.1, p.2.1, p.2.2.val s'))
  | [], _ => rfl
  | x :: xs, hs => by
    simp only [List.flatMap_cons, List.mem_append] at hs
    rw [List.map_cons, List.map_cons, Opd.val_congr (fun t ht => hs t (.inl ht)), parts_congr (fun t ht => hs t (.inr ht))]

omit [LoopSpec] in
theorem optval_congr {s s' : Fr} {x : Option Opd} (hs : ∀ t ∈ optSlots x, s t = s' t) : x.map (Opd.val s) = x.map (Opd.val s') := by
  cases x with
  | none => rfl
  | some x => simp only [Option.map_some]; rw [Opd.val_congr hs]

omit [LoopSpec] in
theorem sepOk_congr {s s' : Fr} {ts : List Nat} {v : PV} (hs : ∀ t ∈ ts, s t = s' t) : sepOk s ts v = sepOk s' ts v := by
  unfold sepOk
  split
  · rename_i i hi
    rw [Bool.eq_iff_iff]
    simp only [List.all_eq_true]
    exact ⟨fun q t ht => by rw [← hs t ht]; exact q t ht, fun q t ht => by rw [hs t ht]; exact q t ht⟩
  · rfl

omit [LoopSpec] in
theorem evOp_congr {o : COp} {s s' : Fr} {h : AH} (hs : ∀ t ∈ o.slots, s t = s' t) : evOp call o s h = evOp call o s' h := by
  have one : ∀ x : Opd, (∀ t ∈ x.slots, t ∈ o.slots) → x.val s = x.val s' := fun x hx => Opd.val_congr fun t ht => hs t (hx t ht)
  cases o
  case bslice z n zs ps => simp only [evOp]; rw [parts_congr (fun t ht => hs t ht)]
  case blit n zs ps => simp only [evOp]; rw [parts_congr (fun t ht => hs t ht)]
  case build zs ps => simp only [evOp]; rw [parts_congr (fun t ht => hs t ht)]
  case mkfn f fs cs => simp only [evOp]; rw [vals_congr (xs := fs) (fun t ht => hs t (by simp [COp.slots]; exact .inl (by simpa using ht))), vals_congr (xs := cs) (fun t ht => hs t (by simp [COp.slots]; exact .inr (by simpa using ht)))]
  case call f as => simp only [evOp]; rw [vals_congr (xs := as) (fun t ht => hs t ht)]
  case minmax m xs => simp only [evOp]; rw [vals_congr (xs := xs) (fun t ht => hs t ht)]
  case callv f as => simp only [evOp]; rw [one f (fun t ht => by simp [COp.slots, ht]), vals_congr (xs := as) (fun t ht => hs t (by simp [COp.slots]; exact .inr (by simpa using ht)))]
  case callp g f as => simp only [evOp]; rw [one f (fun t ht => by simp [COp.slots, ht]), vals_congr (xs := as) (fun t ht => hs t (by simp [COp.slots]; exact .inr (by simpa using ht)))]
  case slice z x lo hi mx => simp only [evOp]; rw [one x (fun t ht => by simp [COp.slots, ht]), optval_congr (x := lo) (fun t ht => hs t (by simp [COp.slots, ht])), optval_congr (x := hi) (fun t ht => hs t (by simp [COp.slots, ht])), optval_congr (x := mx) (fun t ht => hs t (by simp [COp.slots, ht]))]
  case slstr x lo hi => simp only [evOp]; rw [one x (fun t ht => by simp [COp.slots, ht]), optval_congr (x := lo) (fun t ht => hs t (by simp [COp.slots, ht])), optval_congr (x := hi) (fun t ht => hs t (by simp [COp.slots, ht]))]
  case bad => rfl
  case alloc zs => rfl
  case mkmap => rfl
  case pick c a b => simp only [evOp]; rw [one c (fun t ht => by simp [COp.slots, ht]), one a (fun t ht => by simp [COp.slots, ht]), one b (fun t ht => by simp [COp.slots, ht])]
  case upd kd m k v => simp only [evOp]; rw [one m (fun t ht => by simp [COp.slots, ht]), one k (fun t ht => by simp [COp.slots, ht]), one v (fun t ht => by simp [COp.slots, ht])]
  case mov x => simp only [evOp]; rw [one x (fun t ht => by simp [COp.slots, ht])]
  case nilchk x => simp only [evOp]; rw [one x (fun t ht => by simp [COp.slots, ht])]
  case box x => simp only [evOp]; rw [one x (fun t ht => by simp [COp.slots, ht])]
  case boxN n x => simp only [evOp]; rw [one x (fun t ht => by simp [COp.slots, ht])]
  case boxi x => simp only [evOp]; rw [one x (fun t ht => by simp [COp.slots, ht])]
  case mkif k x => simp only [evOp]; rw [one x (fun t ht => by simp [COp.slots, ht])]
  case tass k b x => simp only [evOp]; rw [one x (fun t ht => by simp [COp.slots, ht])]
  case boxT k x => simp only [evOp]; rw [one x (fun t ht => by simp [COp.slots, ht])]
  case appT e g z b x y => simp only [evOp]; rw [one x (fun t ht => by simp [COp.slots, ht]), one y (fun t ht => by simp [COp.slots, ht])]
  case appz z b zs x y => simp only [evOp]; rw [one x (fun t ht => by simp [COp.slots, ht]), one y (fun t ht => by simp [COp.slots, ht])]
  case pan x => rfl
  case callS ls f as =>
    simp only [evOp]
    rw [vals_congr (xs := as) (fun t ht => hs t (by simp only [COp.slots]; exact List.mem_append_right _ ht))]
    have : ∀ h', ls.all (ldSame s h h') = ls.all (ldSame s' h h') := fun h' => by
      rw [Bool.eq_iff_iff, List.all_eq_true, List.all_eq_true]
      refine forall_congr' fun l => forall_congr' fun hl => ?_
      unfold ldSame
      rw [hs l.2.2 (by simp only [COp.slots]; exact List.mem_append_left _ (List.mem_map.2 ⟨l, hl, rfl⟩))]
    simp only [this]
  case s2b x => simp only [evOp]; rw [one x (fun t ht => by simp [COp.slots, ht])]
  case idxbs m x y => simp only [evOp]; rw [one x (fun t ht => by simp [COp.slots, ht]), one y (fun t ht => by simp [COp.slots, ht])]
  case clear z zs x => simp only [evOp]; rw [one x (fun t ht => by simp [COp.slots, ht])]
  case load g n x => simp only [evOp]; rw [one x (fun t ht => by simp [COp.slots, ht])]
  case isnil g k x => simp only [evOp]; rw [one x (fun t ht => by simp [COp.slots, ht])]
  case un op x => simp only [evOp]; rw [one x (fun t ht => by simp [COp.slots, ht])]
  case conv k x => simp only [evOp]; rw [one x (fun t ht => by simp [COp.slots, ht])]
  case str x => simp only [evOp]; rw [one x (fun t ht => by simp [COp.slots, ht])]
  case fld k x => simp only [evOp]; rw [one x (fun t ht => by simp [COp.slots, ht])]
  case fldv g k n x => simp only [evOp]; rw [one x (fun t ht => by simp [COp.slots, ht])]
  case ext x i => simp only [evOp]; rw [one x (fun t ht => by simp [COp.slots, ht])]
  case len k x => simp only [evOp]; rw [one x (fun t ht => by simp [COp.slots, ht])]
  case store n x y => simp only [evOp]; rw [one x (fun t ht => by simp [COp.slots, ht]), one y (fun t ht => by simp [COp.slots, ht])]
  case bin op x y => simp only [evOp]; rw [one x (fun t ht => by simp [COp.slots, ht]), one y (fun t ht => by simp [COp.slots, ht])]
  case eqb g x y => simp only [evOp]; rw [one x (fun t ht => by simp [COp.slots, ht]), one y (fun t ht => by simp [COp.slots, ht])]
  case eqs g k x y => simp only [evOp]; rw [one x (fun t ht => by simp [COp.slots, ht]), one y (fun t ht => by simp [COp.slots, ht])]
  case mkslice z b zs x y => simp only [evOp]; rw [one x (fun t ht => by simp [COp.slots, ht]), one y (fun t ht => by simp [COp.slots, ht])]
  case idx z x y => simp only [evOp]; rw [one x (fun t ht => by simp [COp.slots, ht]), one y (fun t ht => by simp [COp.slots, ht])]
  case idxp l z x y => simp only [evOp]; rw [one x (fun t ht => by simp [COp.slots, ht]), one y (fun t ht => by simp [COp.slots, ht])]
  case idxv g l z x y => simp only [evOp]; rw [one x (fun t ht => by simp [COp.slots, ht]), one y (fun t ht => by simp [COp.slots, ht])]
  case idxs x y => simp only [evOp]; rw [one x (fun t ht => by simp [COp.slots, ht]), one y (fun t ht => by simp [COp.slots, ht])]
  case lkp kd z ok x y => simp only [evOp]; rw [one x (fun t ht => by simp [COp.slots, ht]), one y (fun t ht => by simp [COp.slots, ht])]
  case app z b x y => simp only [evOp]; rw [one x (fun t ht => by simp [COp.slots, ht]), one y (fun t ht => by simp [COp.slots, ht])]
  case del kd x y => simp only [evOp]; rw [one x (fun t ht => by simp [COp.slots, ht]), one y (fun t ht => by simp [COp.slots, ht])]
  case storeS ts n x y => simp only [evOp]; rw [one x (fun t ht => by simp [COp.slots, ht]), one y (fun t ht => by simp [COp.slots, ht]), sepOk_congr (fun t ht => hs t (by simp [COp.slots, ht]))]
  case appS ts z b x y => simp only [evOp]; rw [one x (fun t ht => by simp [COp.slots, ht]), one y (fun t ht => by simp [COp.slots, ht]), sepOk_congr (fun t ht => hs t (by simp [COp.slots, ht]))]
  case loadi g n x => simp only [evOp]; rw [one x (fun t ht => by simp [COp.slots, ht])]
  case mkslI z b zs x y => simp only [evOp]; rw [one x (fun t ht => by simp [COp.slots, ht]), one y (fun t ht => by simp [COp.slots, ht])]
  case mksliceR k z b zs x y => simp only [evOp]; rw [one x (fun t ht => by simp [COp.slots, ht]), one y (fun t ht => by simp [COp.slots, ht])]
  case resv m => rfl

omit [LoopSpec] in
theorem keep_any {h h' : AH} {α : Option PV} {v : PV} (e : keep h α = some (v, h')) : h' = h ∧ ∀ h2, keep h2 α = some (v, h2) := by
  obtain ⟨rfl, rfl⟩ := keep_inv e
  exact ⟨rfl, fun h2 => rfl⟩

omit [LoopSpec] in
/-- Class 0: the heap is neither read nor changed. -/
theorem cls0 {o : COp} {s : Fr} {h h' : AH} {v : PV} (hc : cls pu o = 0) (e : evOp call o s h = some (v, h')) : h' = h ∧ ∀ h2, evOp call o s h2 = some (v, h2) := by
  by_cases hlen : ∃ k x, o = .len k x
  · obtain ⟨k, x, rfl⟩ := hlen
    have hk : k ≠ 2 := fun q => by subst q; simp [cls] at hc
    simp only [evOp] at e ⊢
    obtain ⟨e1, rfl⟩ := keep_inv e
    refine ⟨rfl, fun h2 => ?_⟩
    have : evLen h2 k (x.val s) = evLen h' k (x.val s) := by
      unfold evLen
      split <;> first | rfl | (exfalso; exact hk rfl)
    rw [this, e1]; rfl
  cases o <;> (first | (exact absurd ⟨_, _, rfl⟩ hlen) | (simp [cls] at hc; done) | (simp only [cls] at hc; split at hc <;> first | (cases hc; done) | (split at hc <;> cases hc; done)) | skip) <;> (simp only [evOp] at e ⊢) <;> first
    | exact keep_any e
    | (cases e; exact ⟨rfl, fun _ => rfl⟩)
    | (split at e <;> first | (cases e; exact ⟨rfl, fun _ => rfl⟩) | (cases e; exact ⟨rfl, fun _ => by simp_all⟩) | (cases e; done))
    | (split at hc <;> cases hc)
    | cases hc

omit [LoopSpec] in
theorem rds_le {h h' : AH} {p : PV} {n : Nat} {ds : List PV} (hl : h.le h') (e : rds h p n = some ds) : rds h' p n = some ds := by
  cases p with
  | pt i o =>
    simp only [rds] at e ⊢
    cases hr : h.row i with
    | none => simp [hr] at e
    | some cs => simp only [hr] at e; rw [row_le hl hr]; exact e
  | _ => exact e

omit [LoopSpec] in
theorem rd1_le {h h' : AH} {p d : PV} (hl : h.le h') (e : rd1 h p = some d) : rd1 h' p = some d := by
  cases p with
  | pt i o =>
    simp only [rd1] at e ⊢
    cases hr : h.row i with
    | none => simp [hr] at e
    | some cs => simp only [hr] at e; rw [row_le hl hr]; exact e
  | _ => exact e

omit [LoopSpec] in
theorem evLen_le {h h' : AH} {k : Nat} {X v : PV} (hl : h.le h') (e : evLen h k X = some v) : evLen h' k X = some v := by
  unfold evLen at e ⊢
  split at e <;> try exact e
  rename_i i
  cases hb : h.blk i with
  | none => simp [hb] at e
  | some B => simp only [hb] at e; simp only [hl _ _ hb]; exact e

omit [LoopSpec] in
/-- Class 1: the heap is read. -/
theorem cls1 {o : COp} {s : Fr} {h h' : AH} {v : PV} (hp : PureOk pu call) (hc : cls pu o = 1) (e : evOp call o s h = some (v, h')) : h' = h ∧ ∀ h2, h.le h2 → evOp call o s h2 = some (v, h2) := by
  have mono : ∀ {α : AH → Option PV}, keep h (α h) = some (v, h') → (∀ h2, h.le h2 → α h = some v → α h2 = some v) → h' = h ∧ ∀ h2, h.le h2 → keep h2 (α h2) = some (v, h2) := by
    intro α e m
    obtain ⟨e1, rfl⟩ := keep_inv e
    exact ⟨rfl, fun h2 hl => by rw [m h2 hl e1]; rfl⟩
  cases o with
  | load g n a =>
    refine mono (α := fun h => if g then (rds h (a.val s) n).map .agg else rd1 h (a.val s)) e fun h2 hl e1 => ?_
    cases g with
    | true =>
      simp only [if_true, Option.map_eq_some_iff] at e1 ⊢
      obtain ⟨ds, d1, d2⟩ := e1
      exact ⟨ds, rds_le hl d1, d2⟩
    | false => exact rd1_le hl e1
  | lkp kd z ok m k =>
    refine mono (α := fun h => evLkp h kd z ok (m.val s) (k.val s)) e fun h2 hl e1 => ?_
    unfold evLkp at e1 ⊢
    split at e1
    · rename_i hk
      rw [if_pos hk]
      cases hm : m.val s with
      | mp i =>
        simp only [hm] at e1 ⊢
        cases hb : h.blk i with
        | none => simp [hb] at e1
        | some B => simp only [hb] at e1; rw [hl _ _ hb]; exact e1
      | nilm => simp only [hm] at e1 ⊢; exact e1
      | _ => simp [hm] at e1
    · cases e1
  | len k x =>
    exact mono (α := fun h => evLen h k (x.val s)) e fun h2 hl e1 => evLen_le hl e1
  | call f as =>
    simp only [cls] at hc
    split at hc
    · rename_i hf
      exact hp.1 f _ h v h' hf e
    · split at hc <;> cases hc
  | callp g f as =>
    simp only [cls] at hc
    split at hc
    · rename_i hf
      simp only [evOp] at e ⊢
      split at e
      · split at e
        · rename_i hg
          obtain ⟨e1, e2⟩ := hp.1 g _ h v h' hf e
          refine ⟨e1, fun h2 hl => ?_⟩
          simp_all
        · cases e
      · cases e
    · cases hc
  | _ => simp [cls] at hc

omit [LoopSpec] in
theorem push_le (h : AH) (B : Blk) (hf : h.blk h.nx = none) : h.le (h.push B) := by
  intro i C e
  rw [AH.push_blk]
  by_cases q : i = h.nx
  · subst q; rw [hf] at e; cases e
  · rw [if_neg q]; exact e

omit [LoopSpec] in
/-- Class 2: a new block. -/
theorem cls2 {o : COp} {s : Fr} {h h' : AH} {v : PV} (hp : PureOk pu call) (hw : ∀ i, h.nx ≤ i → h.blk i = none) (hc : cls pu o = 2) (e : evOp call o s h = some (v, h')) : h.le h' := by
  have hf := hw _ (Nat.le_refl _)
  by_cases hcall : ∃ f as, o = .call f as
  · obtain ⟨f, as, rfl⟩ := hcall
    simp only [cls] at hc
    split at hc
    · cases hc
    · split at hc
      · rename_i hx; exact hp.2 f _ h v h' hx hw e
      · cases hc
  by_cases hR : ∃ k z b zs l c, o = .mksliceR k z b zs l c
  · obtain ⟨k, z, b, zs, l, c, rfl⟩ := hR
    simp only [evOp] at e
    split at e
    · split at e
      · rename_i hq
        cases e
        intro i B hB
        rw [AH.set_blk]
        by_cases q : i = h.nx - 1 - k
        · subst q; have := hq.2.2.2; rw [hB] at this; cases this
        · rw [if_neg q]; exact hB
      · cases e
    · cases e
  cases o <;> (first | (exact absurd ⟨_, _, rfl⟩ hcall) | (exact absurd ⟨_, _, _, _, _, _, rfl⟩ hR) | (simp [cls] at hc; done) | (simp only [cls] at hc; split at hc <;> cases hc; done) | skip) <;> (simp only [evOp] at e) <;> first
    | (cases e; exact push_le h _ hf)
    | (split at e <;> first | (cases e; exact push_le h _ hf) | (cases e; done) | (split at e <;> first | (cases e; exact push_le h _ hf) | cases e))
    | (split at hc <;> cases hc)
    | cases hc
end
end Go.Ev

/- Regions: whatever order is picked, the operations come to what they come to in the order of the text. -/
set_option linter.unusedVariables false
set_option linter.unusedSimpArgs false
namespace Go.Ev
variable [LoopSpec]
section
variable {call : Nat → List PV → AH → Option (PV × AH)} {pu : Nat → Bool}

def WFH (h : AH) : Prop := ∀ i, h.nx ≤ i → h.blk i = none

/-- Calls leave no block beyond the count. -/
def WfOk (call : Nat → List PV → AH → Option (PV × AH)) : Prop := ∀ f as h r h', WFH h → call f as h = some (r, h') → WFH h'

omit [LoopSpec] in
theorem WFH.push {h : AH} (hw : WFH h) (B : Blk) : WFH (h.push B) := by
  intro i hi
  have : h.nx + 1 ≤ i := hi
  rw [AH.push_blk, if_neg (by omega)]
  exact hw i (by omega)
omit [LoopSpec] in
theorem WFH.set {h : AH} (hw : WFH h) {j : Nat} (hj : h.blk j ≠ none) (B : Blk) : WFH (h.set j B) := by
  intro i hi
  have h1 : h.nx ≤ i := hi
  rw [AH.set_blk]
  by_cases q : i = j
  · subst q; exact absurd (hw i h1) hj
  · rw [if_neg q]; exact hw i h1
omit [LoopSpec] in
theorem WFH.del {h : AH} (hw : WFH h) (j : Nat) : WFH (h.del j) := by
  intro i hi
  have h1 : h.nx ≤ i := hi
  rw [AH.del_blk]
  split
  · rfl
  · exact hw i h1
omit [LoopSpec] in
theorem row_ne {h : AH} {i : Nat} {cs : List PV} (e : h.row i = some cs) : h.blk i ≠ none := by rw [row_blk e]; simp

omit [LoopSpec] in
theorem wr_wf {h h' : AH} {p v : PV} {n : Nat} (hw : WFH h) (e : wr h p v n = some h') : WFH h' := by
  cases p with
  | pt i o =>
    simp only [wr] at e
    cases hr : h.row i with
    | none => simp [hr] at e
    | some cs =>
      simp only [hr] at e
      cases v <;> simp only at e <;> first
        | cases e; done
        | (split at e <;> first | (cases e; exact hw.set (row_ne hr) _) | (cases e; done))
  | _ => simp [wr] at e

omit [LoopSpec] in
theorem WFH.setAt {h : AH} (hw : WFH h) {j : Nat} (hj : j < h.nx) (B : Blk) : WFH (h.set j B) := by
  intro i hi
  have h1 : h.nx ≤ i := hi
  rw [AH.set_blk, if_neg (by omega)]
  exact hw i h1
omit [LoopSpec] in
theorem appL_wf {h h' : AH} {z b : Nat} {x v : PV} {r : Option (Nat × List PV)} (hw : WFH h) (e : evAppL h z b x r = some (v, h')) : WFH h' := by
  simp only [evAppL] at e
  split at e
  · split at e <;> first | (cases e; exact hw) | (cases e; done)
  · split at e
    · split at e
      · cases e; exact hw.push _
      · cases e
    · split at e
      · split at e
        · cases e; exact (hw.del _).push _
        · cases e
      · cases e
    · cases e
  · cases e
omit [LoopSpec] in
theorem app_wf {h h' : AH} {z b : Nat} {x y v : PV} (hw : WFH h) (e : evApp h z b x y = some (v, h')) : WFH h' := appL_wf hw e
omit [LoopSpec] in
theorem appT_inv {h h' : AH} {t z b : Nat} {str : Bool} {x y v : PV} (e : evAppT h t str z b x y = some (v, h')) : ∃ r h0, evAppL h z b x r = some (v, h0) ∧ (h' = h0 ∨ ∃ i k, h' = h0.tag i k) := by
  unfold evAppT at e
  by_cases hT : tyOk h t x = true
  · rw [if_pos hT] at e
    generalize appSrc h str z y = r at e
    cases hL : evAppL h z b x r with
    | none => rw [hL] at e; cases e
    | some p =>
      obtain ⟨v0, h0⟩ := p
      rw [hL] at e
      cases v0 with
      | rf z' i o n =>
        simp only at e
        split at e
        · cases e; exact ⟨r, h0, hL, .inr ⟨_, _, rfl⟩⟩
        · cases e; exact ⟨r, _, hL, .inl rfl⟩
      | _ => cases e; exact ⟨r, _, hL, .inl rfl⟩
  · rw [if_neg hT] at e; cases e
omit [LoopSpec] in
theorem appz_inv {h h' : AH} {z b : Nat} {zs : List PV} {x y v : PV} (e : evAppz h z b zs x y = some (v, h')) : ∃ r, evAppL h z b x r = some (v, h') := by
  unfold evAppz at e
  split at e
  · split at e
    · exact ⟨_, e⟩
    · cases e
  · cases e
omit [LoopSpec] in
theorem evOp_wf {o : COp} {s : Fr} {h h' : AH} {v : PV} (hc : WfOk call) (hw : WFH h) (e : evOp call o s h = some (v, h')) : WFH h' := by
  cases o
  case storeS ts n a x =>
    simp only [evOp] at e
    split at e
    · split at e
      · rename_i h2 h3; cases e; exact wr_wf hw h3
      · cases e
    · cases e
  case appS ts z b x y =>
    simp only [evOp] at e
    split at e
    · exact app_wf hw e
    · cases e
  case mksliceR k z b zs l c =>
    simp only [evOp] at e
    split at e
    · split at e
      · rename_i hq; cases e; exact hw.setAt (by omega) _
      · cases e
    · cases e
  case callS ls f as =>
    simp only [evOp] at e
    split at e
    · rename_i v1 h1 hcall
      split at e
      · cases e; exact hc f _ h v h' hw hcall
      · cases e
    · cases e
  case appT t g z b x y =>
    obtain ⟨r, h0, e1, q | ⟨_, _, q⟩⟩ := appT_inv e
    · rw [q]; exact appL_wf hw e1
    · rw [q]; exact fun i hi => appL_wf hw e1 i hi
  case appz z b zs x y =>
    obtain ⟨r, e1⟩ := appz_inv e
    exact appL_wf hw e1
  case boxT t x =>
    simp only [evOp] at e
    split at e
    · cases e; exact fun i hi => hw.push _ i hi
    · cases e
  case resv m => cases e; exact fun i hi => hw i (by have : h.nx + m ≤ i := hi; omega)
  case store n a x =>
    simp only [evOp] at e
    split at e
    · rename_i h2 h3; cases e; exact wr_wf hw h3
    · cases e
  case upd kd m k x =>
    simp only [evOp, evUpd] at e
    split at e
    · split at e
      · rename_i i es hb
        split at e
        · split at e <;> first | (cases e; exact hw.set (by rw [hb]; simp) _) | (cases e; done)
        · cases e
      · cases e
    · cases e
  case del kd m k =>
    simp only [evOp, evDel] at e
    split at e
    · split at e
      · cases e; exact hw
      · cases e
    · split at e
      · rename_i i es hb
        split at e
        · split at e <;> first | (cases e; exact hw.set (by rw [hb]; simp) _) | (cases e; exact hw) | (cases e; done)
        · cases e
      · cases e
    · cases e
  case clear z zs x =>
    simp only [evOp, evClear] at e
    split at e
    · split at e
      · rename_i cs hr
        split at e
        · cases e; exact hw.set (row_ne hr) _
        · cases e
      · cases e
    · cases e; exact hw
    · cases e
  case app z b x y =>
    simp only [evOp, evApp, evAppL] at e
    split at e
    · split at e <;> first | (cases e; exact hw) | (cases e; done)
    · split at e
      · split at e
        · cases e; exact hw.push _
        · cases e
      · split at e
        · split at e
          · cases e; exact (hw.del _).push _
          · cases e
        · cases e
      · cases e
    · cases e
  case call f as => exact hc f _ h v h' hw e
  case callv f as =>
    simp only [evOp] at e
    split at e
    · split at e
      · exact hc _ _ h v h' hw e
      · cases e
    · exact hc _ _ h v h' hw e
    · cases e
  case callp g f as =>
    simp only [evOp] at e
    split at e
    · split at e
      · exact hc _ _ h v h' hw e
      · cases e
    · cases e
  all_goals
    simp only [evOp] at e
    first
      | (cases e; done)
      | (obtain ⟨_, rfl⟩ := keep_inv e; exact hw)
      | (cases e; first | exact hw | exact hw.push _)
      | (split at e <;> first | (cases e; first | exact hw | exact hw.push _) | (cases e; done) | (split at e <;> first | (cases e; first | exact hw | exact hw.push _) | (cases e; done)))

omit [LoopSpec] in
theorem evOpB_inv {o : COp} {s : Fr} {h h' : AH} {v : PV} (e : evOpB call o s h = some (v, h')) : barOk o s h = true ∧ evOp call o s h = some (v, h') := by
  unfold evOpB at e
  split at e
  · rename_i hb; exact ⟨hb, e⟩
  · cases e

omit [LoopSpec] in
theorem evOpB_mk {o : COp} {s : Fr} {h h' : AH} {v : PV} (hb : barOk o s h = true) (e : evOp call o s h = some (v, h')) : evOpB call o s h = some (v, h') := by
  unfold evOpB; rw [if_pos hb]; exact e

omit [LoopSpec] in
theorem barOk_cls {o : COp} {s : Fr} {h : AH} (hc : cls pu o = 0 ∨ cls pu o = 1) : barOk o s h = true := by
  cases o <;> first | rfl | (rcases hc with hc | hc <;> simp [cls] at hc)

omit [LoopSpec] in
theorem evOpB_congr {o : COp} {s s' : Fr} {h : AH} (hs : ∀ t ∈ o.slots, s t = s' t) : evOpB call o s h = evOpB call o s' h := by
  have one : ∀ x : Opd, (∀ t ∈ x.slots, s t = s' t) → x.val s = x.val s' := by
    intro x hx
    cases x with
    | t n => exact hx n (by simp [Opd.slots])
    | c v => rfl
  have hb : barOk o s h = barOk o s' h := by
    cases o <;> first | rfl | (simp only [barOk, target]; rw [one _ (fun t ht => hs t (by simp [COp.slots, ht]))])
  unfold evOpB
  rw [hb, evOp_congr hs]

def evStep (call : Nat → List PV → AH → Option (PV × AH)) (o : COper) (s : Fr) (h : AH) : Option (Fr × AH) :=
  if wants o.guard s then match evOpB call o.op s h with
    | some (v, h') => some (Fr.put s o.dst v, h')
    | none => none
  else some (Fr.put s o.dst .undef, h)

omit [LoopSpec] in
theorem evStep_wf {o : COper} {s s' : Fr} {h h' : AH} (hc : WfOk call) (hw : WFH h) (e : evStep call o s h = some (s', h')) : WFH h' := by
  unfold evStep at e
  split at e
  · split at e
    · rename_i v h2 h3; cases e; exact evOp_wf hc hw (evOpB_inv h3).2
    · cases e
  · cases e; exact hw

omit [LoopSpec] in
theorem wants_congr {g : Option (Nat × Bool)} {s s' : Fr} (hs : ∀ t b, g = some (t, b) → s t = s' t) : wants g s = wants g s' := by
  cases g with
  | none => rfl
  | some p =>
    obtain ⟨t, b⟩ := p
    simp only [wants, hs t b rfl]

omit [LoopSpec] in
/-- One step: a value, a heap. -/
theorem evStep_inv {o : COper} {s s' : Fr} {h h' : AH} (e : evStep call o s h = some (s', h')) :
    ∃ v, s' = Fr.put s o.dst v ∧ ((wants o.guard s = true ∧ evOpB call o.op s h = some (v, h')) ∨ (wants o.guard s = false ∧ v = .undef ∧ h' = h)) := by
  unfold evStep at e
  split at e
  · rename_i hw
    split at e
    · rename_i v h2 h3; cases e; exact ⟨v, rfl, .inl ⟨hw, h3⟩⟩
    · cases e
  · rename_i hw
    cases e
    exact ⟨_, rfl, .inr ⟨by simpa using hw, rfl, rfl⟩⟩

omit [LoopSpec] in
theorem evStep_mk {o : COper} {s : Fr} {h h' : AH} {v : PV} (e : (wants o.guard s = true ∧ evOpB call o.op s h = some (v, h')) ∨ (wants o.guard s = false ∧ v = .undef ∧ h' = h)) :
    evStep call o s h = some (Fr.put s o.dst v, h') := by
  unfold evStep
  rcases e with ⟨h1, h2⟩ | ⟨h1, rfl, rfl⟩
  · rw [if_pos h1, h2]
  · rw [if_neg (by simp [h1])]

omit [LoopSpec] in
theorem put_get {s : Fr} {d : Option Nat} {v : PV} {t : Nat} (hd : ∀ x, d = some x → t ≠ x) : Fr.put s d v t = s t := by
  cases d with
  | none => rfl
  | some x => simp [Fr.put, hd x rfl]

omit [LoopSpec] in
theorem put_comm {s : Fr} {d e : Option Nat} {u v : PV} (hne : ∀ x y, d = some x → e = some y → x ≠ y) : Fr.put (Fr.put s d u) e v = Fr.put (Fr.put s e v) d u := by
  cases d with
  | none => rfl
  | some x =>
    cases e with
    | none => rfl
    | some y =>
      have := hne x y rfl rfl
      funext t
      simp only [Fr.put]
      by_cases h1 : t = y
      · subst h1; rw [if_pos rfl, if_neg (fun q => this q.symm), if_pos rfl]
      · rw [if_neg h1]
        by_cases h2 : t = x
        · rw [if_pos h2, if_pos h2]
        · rw [if_neg h2, if_neg h2, if_neg h1]

omit [LoopSpec] in
theorem notIn_spec {d : Option Nat} {l : List Nat} (h : notIn d l = true) : ∀ t ∈ l, ∀ x, d = some x → t ≠ x := by
  intro t ht x hx q
  subst hx q
  simp [notIn] at h
  exact h ht

omit [LoopSpec] in
/-- A step sees only its own slots. -/
theorem step_slots {o : COper} {s s2 : Fr} {h h' : AH} {v : PV} (hs : ∀ t ∈ o.reads, s t = s2 t)
    (e : (wants o.guard s = true ∧ evOpB call o.op s h = some (v, h')) ∨ (wants o.guard s = false ∧ v = .undef ∧ h' = h)) :
    (wants o.guard s2 = true ∧ evOpB call o.op s2 h = some (v, h')) ∨ (wants o.guard s2 = false ∧ v = .undef ∧ h' = h) := by
  have h1 : wants o.guard s2 = wants o.guard s := wants_congr fun t b hg => (hs t (by simp [COper.reads, hg])).symm
  have h2 : evOpB call o.op s h = evOpB call o.op s2 h := evOpB_congr fun t ht => hs t (by simp [COper.reads, ht])
  rw [h1, ← h2]
  exact e

omit [LoopSpec] in
/-- What a step of a class does to the heap. -/
theorem step_heap {o : COper} {s : Fr} {h h' : AH} {v : PV} (hp : PureOk pu call) (hw : WFH h)
    (e : (wants o.guard s = true ∧ evOpB call o.op s h = some (v, h')) ∨ (wants o.guard s = false ∧ v = .undef ∧ h' = h)) :
    (cls pu o.op = 0 → h' = h ∧ ∀ h2, (wants o.guard s = true ∧ evOpB call o.op s h2 = some (v, h2)) ∨ (wants o.guard s = false ∧ v = .undef ∧ h2 = h2)) ∧
    (cls pu o.op = 1 → h' = h ∧ ∀ h2, h.le h2 → (wants o.guard s = true ∧ evOpB call o.op s h2 = some (v, h2)) ∨ (wants o.guard s = false ∧ v = .undef ∧ h2 = h2)) ∧
    (cls pu o.op = 2 → h.le h') := by
  rcases e with ⟨h1, h2⟩ | ⟨h1, rfl, rfl⟩
  · replace h2 := (evOpB_inv h2).2
    refine ⟨fun hc => ?_, fun hc => ?_, fun hc => cls2 hp hw hc h2⟩
    · obtain ⟨a, b⟩ := cls0 hc h2
      exact ⟨a, fun h3 => .inl ⟨h1, evOpB_mk (barOk_cls (pu := pu) (.inl hc)) (b h3)⟩⟩
    · obtain ⟨a, b⟩ := cls1 hp hc h2
      exact ⟨a, fun h3 hl => .inl ⟨h1, evOpB_mk (barOk_cls (pu := pu) (.inr hc)) (b h3 hl)⟩⟩
  · exact ⟨fun _ => ⟨rfl, fun _ => .inr ⟨h1, rfl, rfl⟩⟩, fun _ => ⟨rfl, fun _ _ => .inr ⟨h1, rfl, rfl⟩⟩, fun _ i B e => e⟩

omit [LoopSpec] in
theorem set_comm {h : AH} {i j : Nat} (hij : i ≠ j) (B C : Blk) : (h.set i B).set j C = (h.set j C).set i B := by
  unfold AH.set
  congr 1
  funext k
  by_cases h1 : k = j
  · subst h1; simp [Ne.symm hij]
  · simp [h1]
omit [LoopSpec] in
theorem rds_keep {h h2 : AH} {p : PV} {n : Nat} {ds : List PV} (hk : ∀ i, blkOf p = some i → h.blk i ≠ none → h2.blk i = h.blk i) (e : rds h p n = some ds) : rds h2 p n = some ds := by
  cases p with
  | pt i o =>
    simp only [rds] at e ⊢
    cases hr : h.row i with
    | none => simp [hr] at e
    | some cs =>
      have hb := hk i rfl (row_ne hr)
      have : h2.row i = some cs := by simp only [AH.row, hb]; exact hr
      simp only [hr] at e; rw [this]; exact e
  | _ => exact e
omit [LoopSpec] in
theorem rd1_keep {h h2 : AH} {p d : PV} (hk : ∀ i, blkOf p = some i → h.blk i ≠ none → h2.blk i = h.blk i) (e : rd1 h p = some d) : rd1 h2 p = some d := by
  cases p with
  | pt i o =>
    simp only [rd1] at e ⊢
    cases hr : h.row i with
    | none => simp [hr] at e
    | some cs =>
      have hb := hk i rfl (row_ne hr)
      have : h2.row i = some cs := by simp only [AH.row, hb]; exact hr
      simp only [hr] at e; rw [this]; exact e
  | _ => exact e
omit [LoopSpec] in
theorem sepOk_spec {s : Nat → PV} {ts : List Nat} {v : PV} {i : Nat} (e : sepOk s ts v = true) (hv : blkOf v = some i) : ∀ t ∈ ts, blkOf (s t) ≠ some i := by
  intro t ht q
  unfold sepOk at e
  rw [hv] at e
  simp only [List.all_eq_true] at e
  have := e t ht
  rw [q] at this
  simp at this
omit [LoopSpec] in
theorem wr_keep {h h2 : AH} {p v : PV} {n i : Nat} (e : wr h p v n = some h2) (hi : blkOf p ≠ some i) : h2.blk i = h.blk i := by
  cases p with
  | pt j o =>
    have hij : i ≠ j := fun q => hi (by rw [q]; rfl)
    simp only [wr] at e
    cases hr : h.row j with
    | none => simp [hr] at e
    | some cs =>
      simp only [hr] at e
      cases v <;> simp only at e <;> first
        | cases e; done
        | (split at e <;> first | (cases e; rw [AH.set_blk, if_neg hij]) | (cases e; done))
  | _ => simp [wr] at e
omit [LoopSpec] in
theorem app_keep {h h2 : AH} {z b i : Nat} {x y v : PV} (hw : WFH h) (e : evApp h z b x y = some (v, h2)) (hi : blkOf x ≠ some i) (hb : h.blk i ≠ none) : h2.blk i = h.blk i := by
  have hn : i ≠ h.nx := fun q => hb (by rw [q]; exact hw _ (Nat.le_refl _))
  simp only [evApp, evAppL] at e
  split at e
  · split at e <;> first | (cases e; rfl) | (cases e; done)
  · split at e
    · split at e
      · cases e; rw [AH.push_blk, if_neg hn]
      · cases e
    · rename_i z' j o n
      have hij : i ≠ j := fun q => hi (by rw [q]; rfl)
      split at e
      · split at e
        · cases e
          rw [AH.push_blk, if_neg (show i ≠ (h.del j).nx from hn), AH.del_blk, if_neg hij]
        · cases e
      · cases e
    · cases e
  · cases e
omit [LoopSpec] in
theorem all2_eq {p : PV → PV → Bool} (hp : ∀ x y, p x y = true → x = y) : ∀ (xs ys : List PV), all2 p xs ys = true → xs = ys
  | [], [], _ => rfl
  | [], _ :: _, e => by cases e
  | _ :: _, [], e => by cases e
  | x :: xs, y :: ys, e => by
    simp only [all2, Bool.and_eq_true] at e
    rw [hp x y e.1, all2_eq hp xs ys e.2]
omit [LoopSpec] in
theorem pvEq_eq : ∀ (d : Nat) (x y : PV), pvEq d x y = true → x = y
  | 0, _, _, e => by cases e
  | d + 1, x, y, e => by
    have ih := all2_eq (pvEq_eq d)
    cases x <;> cases y <;> simp only [pvEq, Bool.and_eq_true, beq_iff_eq, decide_eq_true_eq, Bool.false_eq_true] at e <;> first
      | rfl
      | (rw [e])
      | (rw [e.1, e.2])
      | (rw [ih _ _ e])
      | (rw [e.1, ih _ _ e.2])
      | (rw [e.1.1, ih _ _ e.1.2, ih _ _ e.2])
      | (rw [e.1, pvEq_eq d _ _ e.2])
      | (obtain ⟨⟨⟨rfl, rfl⟩, rfl⟩, rfl⟩ := e; rfl)
omit [LoopSpec] in
theorem ldv_keep {h h2 : AH} {p r : PV} {g : Bool} {n : Nat} (hk : ∀ i, blkOf p = some i → h.blk i ≠ none → h2.blk i = h.blk i) (e : ldv h g n p = some r) : ldv h2 g n p = some r := by
  unfold ldv at e ⊢
  cases g with
  | true =>
    simp only [if_true, Option.map_eq_some_iff] at e ⊢
    obtain ⟨ds, d1, rfl⟩ := e
    exact ⟨ds, rds_keep hk d1, rfl⟩
  | false =>
    simp only [Bool.false_eq_true, if_false] at e ⊢
    exact rd1_keep hk e
omit [LoopSpec] in
/-- A load, and a write of another block. -/
theorem sep_keep {x y : COp} {s : Fr} {h h2 : AH} {v : PV} (hw : WFH h) (hp : sepPair x y = true) (e : evOp call y s h = some (v, h2)) : ∃ g n t, x = .load g n (.t t) ∧ ∀ r, ldv h g n (s t) = some r → ldv h2 g n (s t) = some r := by
  unfold sepPair at hp
  split at hp
  · rename_i g n t ts m a z
    refine ⟨g, n, t, rfl, fun r hr => ldv_keep (fun i hi hb => ?_) hr⟩
    simp only [evOp] at e
    split at e
    · rename_i hs
      split at e
      · rename_i h3 hwr
        cases e
        refine wr_keep hwr fun q => sepOk_spec hs q t (by simpa using hp) hi
      · cases e
    · cases e
  · rename_i g n t ts m bb a z
    refine ⟨g, n, t, rfl, fun r hr => ldv_keep (fun i hi hb => ?_) hr⟩
    simp only [evOp] at e
    split at e
    · rename_i hs
      exact app_keep hw e (fun q => sepOk_spec hs q t (by simpa using hp) hi) hb
    · cases e
  · rename_i g n t ls f as
    refine ⟨g, n, t, rfl, fun r hr => ?_⟩
    simp only [evOp] at e
    split at e
    · split at e
      · rename_i hs
        cases e
        have hm : (g, n, t) ∈ ls := by simpa using hp
        have := List.all_eq_true.1 hs _ hm
        unfold ldSame at this
        simp only [hr] at this
        split at this
        · rename_i a b h1 h2
          cases h1
          rw [h2, ← pvEq_eq _ _ _ this]
        · cases this
      · cases e
    · cases e
  · cases hp
omit [LoopSpec] in
theorem mkR_inv {k z b : Nat} {zs : List PV} {l c : Opd} {s : Fr} {h h' : AH} {v : PV} (e : evOp call (.mksliceR k z b zs l c) s h = some (v, h')) :
    ∃ l' c', l.val s = .int .i64 l' ∧ c.val s = .int .i64 c' ∧ ((0 ≤ l' ∧ l' ≤ c' ∧ roomOk c'.toNat (b + 1) = true) ∧ (k < h.nx ∧ h.lo ≤ h.nx - 1 - k ∧ (h.blk (h.nx - 1 - k)).isNone = true)) ∧
      v = .rf z (h.nx - 1 - k) 0 l'.toNat ∧ h' = h.set (h.nx - 1 - k) (.cells (List.replicate l'.toNat zs).flatten) := by
  simp only [evOp] at e
  split at e
  · rename_i l' c' h1 h2
    split at e
    · rename_i hq; cases e; exact ⟨l', c', h1, h2, hq, rfl, rfl⟩
    · cases e
  · cases e
omit [LoopSpec] in
theorem mkR_mk {k z b : Nat} {zs : List PV} {l c : Opd} {s : Fr} {h : AH} {l' c' : Int} (h1 : l.val s = .int .i64 l') (h2 : c.val s = .int .i64 c') (hq : (0 ≤ l' ∧ l' ≤ c' ∧ roomOk c'.toNat (b + 1) = true) ∧ (k < h.nx ∧ h.lo ≤ h.nx - 1 - k ∧ (h.blk (h.nx - 1 - k)).isNone = true)) :
    evOp call (.mksliceR k z b zs l c) s h = some (.rf z (h.nx - 1 - k) 0 l'.toNat, h.set (h.nx - 1 - k) (.cells (List.replicate l'.toNat zs).flatten)) := by
  simp only [evOp, h1, h2]
  rw [if_pos hq]
omit [LoopSpec] in
theorem resK_inv {o : COp} {k : Nat} (e : resK o = some k) : ∃ z b zs l c, o = .mksliceR k z b zs l c := by
  cases o <;> simp [resK] at e
  subst e
  exact ⟨_, _, _, _, _, rfl⟩
omit [LoopSpec] in
theorem resPair_inv {x y : COp} (e : resPair x y = true) : ∃ k k', resK x = some k ∧ resK y = some k' ∧ k ≠ k' := by
  unfold resPair at e
  split at e
  · rename_i k k' h1 h2; exact ⟨k, k', h1, h2, by simpa using e⟩
  · cases e

omit [LoopSpec] in
/-- Two steps that are apart, turned round. -/
theorem swap2 {x y : COper} {s s1 s2 : Fr} {h h1 h2 : AH} (hp : PureOk pu call) (hc : WfOk call) (hw : WFH h) (ha : apartC pu x y = true) (e1 : evStep call x s h = some (s1, h1)) (e2 : evStep call y s1 h1 = some (s2, h2)) :
    ∃ s1' h1', evStep call y s h = some (s1', h1') ∧ evStep call x s1' h1' = some (s2, h2) := by
  have hw1 := evStep_wf hc hw e1
  obtain ⟨vx, rfl, ex⟩ := evStep_inv e1
  obtain ⟨vy, rfl, ey⟩ := evStep_inv e2
  simp only [apartC, Bool.and_eq_true] at ha
  obtain ⟨⟨⟨a1, a2⟩, a3⟩, a4⟩ := ha
  have n1 := notIn_spec a1
  have n2 := notIn_spec a2
  have n3 : ∀ p q, x.dst = some p → y.dst = some q → p ≠ q := by
    intro p q hp hq
    rw [hp, hq] at a3
    simpa using a3
  -- y sees what it saw ahead of x
  have ey' := step_slots (s2 := s) (fun t ht => put_get (fun z hz => n1 t ht z hz)) ey
  -- x sees what it saw, behind y
  have ex' := step_slots (s2 := Fr.put s y.dst vy) (fun t ht => (put_get (fun z hz => n2 t ht z hz)).symm) ex
  obtain ⟨x0, x1, x2⟩ := step_heap hp hw ex'
  obtain ⟨y0, y1, y2⟩ := step_heap hp hw1 ey'
  have fin : ∀ h1', ((wants y.guard s = true ∧ evOpB call y.op s h = some (vy, h1')) ∨ (wants y.guard s = false ∧ vy = .undef ∧ h1' = h)) →
      ((wants x.guard (Fr.put s y.dst vy) = true ∧ evOpB call x.op (Fr.put s y.dst vy) h1' = some (vx, h2)) ∨ (wants x.guard (Fr.put s y.dst vy) = false ∧ vx = .undef ∧ h2 = h1')) →
      ∃ s1' h1', evStep call y s h = some (s1', h1') ∧ evStep call x s1' h1' = some (Fr.put (Fr.put s x.dst vx) y.dst vy, h2) := by
    intro h1' k1 k2
    refine ⟨_, h1', evStep_mk k1, ?_⟩
    rw [put_comm n3]
    exact evStep_mk k2
  simp only [okPair, Bool.or_eq_true, Bool.and_eq_true, beq_iff_eq] at a4
  rcases a4 with (((q | q) | ⟨q, q' | q'⟩) | q) | q
  · obtain ⟨rfl, g⟩ := x0 q
    exact fin h2 ey' (g h2)
  · obtain ⟨rfl, g⟩ := y0 q
    exact fin h (g h) ex'
  · obtain ⟨rfl, g⟩ := x1 q
    obtain ⟨rfl, g'⟩ := y1 q'
    exact fin _ ey' (g _ (fun i B e => e))
  · obtain ⟨rfl, g⟩ := x1 q
    exact fin h2 ey' (g h2 (y2 q'))
  · have hx1 : cls pu x.op = 1 := by
      unfold sepPair at q
      split at q
      · rename_i h1 _; rw [h1]; rfl
      · rename_i h1 _; rw [h1]; rfl
      · rename_i h1 _; rw [h1]; rfl
      · cases q
    obtain ⟨rfl, _⟩ := x1 hx1
    refine fin h2 ey' ?_
    rcases ex' with ⟨e1, e2⟩ | ⟨e1, e2, e3⟩
    · refine .inl ⟨e1, ?_⟩
      rcases ey' with ⟨_, f2⟩ | ⟨_, _, rfl⟩
      · obtain ⟨g, n, t, hxo, hk⟩ := sep_keep hw q (evOpB_inv f2).2
        have htd : (Fr.put s y.dst vy) t = s t := put_get fun z hz => n2 t (by simp [COper.reads, hxo, COp.slots, Opd.slots]) z hz
        rw [← htd] at hk
        have e2' := (evOpB_inv e2).2
        refine evOpB_mk (by rw [hxo]; rfl) ?_
        rw [hxo] at e2' ⊢
        simp only [evOp] at e2' ⊢
        obtain ⟨e3, _⟩ := keep_inv e2'
        have e4 := hk _ (show ldv _ g n _ = some vx from e3)
        show keep h2 (ldv h2 g n (Opd.val (Fr.put s y.dst vy) (.t t))) = some (vx, h2)
        simp only [Opd.val]
        rw [e4]; rfl
      · exact e2
    · exact .inr ⟨e1, e2, rfl⟩
  · obtain ⟨k, k', r1, r2, hkk⟩ := resPair_inv q
    obtain ⟨z, b, zs, l, c, hxo⟩ := resK_inv r1
    obtain ⟨z', b', zs', l', c', hyo⟩ := resK_inv r2
    have bx : ∀ s h, barOk x.op s h = true := fun s h => by rw [hxo]; rfl
    have by' : ∀ s h, barOk y.op s h = true := fun s h => by rw [hyo]; rfl
    rcases ex' with ⟨ea, eb⟩ | ⟨ea, eb, rfl⟩
    · rcases ey' with ⟨f1, f2⟩ | ⟨f1, f2, rfl⟩
      · have e3 := (evOpB_inv eb).2
        have f3 := (evOpB_inv f2).2
        rw [hxo] at e3
        rw [hyo] at f3
        obtain ⟨L, C, u1, u2, ⟨u3, u4, u5, u6⟩, rfl, rfl⟩ := mkR_inv e3
        obtain ⟨L', C', w1, w2, ⟨w3, w4, w5, w6⟩, rfl, rfl⟩ := mkR_inv f3
        simp only [show ∀ i B, (AH.set h i B).nx = h.nx from fun _ _ => rfl, show ∀ i B, (AH.set h i B).lo = h.lo from fun _ _ => rfl] at w4 w5 w6 eb f2 ⊢
        have hne : h.nx - 1 - k' ≠ h.nx - 1 - k := by omega
        rw [AH.set_blk, if_neg hne] at w6
        have my := mkR_mk (call := call) (k := k') (z := z') (zs := zs') (h := h) w1 w2 ⟨w3, w4, w5, w6⟩
        have mx := mkR_mk (call := call) (k := k) (z := z) (zs := zs) (h := h.set (h.nx - 1 - k') (.cells (List.replicate L'.toNat zs').flatten)) u1 u2 ⟨u3, u4, u5, by
          show ((h.set (h.nx - 1 - k') _).blk (h.nx - 1 - k)).isNone = true
          rw [AH.set_blk, if_neg (Ne.symm hne)]; exact u6⟩
        refine fin _ (.inl ⟨f1, evOpB_mk (by' _ _) (by rw [hyo]; exact my)⟩) (.inl ⟨ea, evOpB_mk (bx _ _) ?_⟩)
        rw [hxo]
        refine Eq.trans mx ?_
        exact congrArg (fun q => some (PV.rf z (h.nx - 1 - k) 0 L.toNat, q)) (set_comm hne _ _)
      · exact fin h (.inr ⟨f1, f2, rfl⟩) (.inl ⟨ea, eb⟩)
    · exact fin h2 ey' (.inr ⟨ea, eb, rfl⟩)

def evSeq (call : Nat → List PV → AH → Option (PV × AH)) (cops : List COper) : List Nat → Fr → AH → Option (Fr × AH)
  | [], s, h => some (s, h)
  | i :: l, s, h => match cops[i]? with
    | some o => match evStep call o s h with
      | some (s', h') => evSeq call cops l s' h'
      | none => none
    | none => none

omit [LoopSpec] in
theorem evOps_step (o : COper) (r : List COper) (s : Fr) (h : AH) : evOps call (o :: r) s h = match evStep call o s h with | some (s', h') => evOps call r s' h' | none => none := by
  simp only [evOps, evStep]
  by_cases hw : wants o.guard s = true
  · simp only [hw, if_true]
    cases evOpB call o.op s h with
    | none => rfl
    | some p => rfl
  · simp only [hw, if_false, Bool.false_eq_true]

omit [LoopSpec] in
theorem evSeq_range (cops : List COper) : ∀ (r pre : List COper) (s : Fr) (h : AH), cops = pre ++ r → evOps call r s h = evSeq call cops (List.range' pre.length r.length) s h
  | [], pre, s, h, e => by simp [evOps, evSeq]
  | o :: r, pre, s, h, e => by
    have hi : cops[pre.length]? = some o := by rw [e]; simp
    rw [evOps_step, List.length_cons, List.range'_succ]
    simp only [evSeq, hi]
    cases hs : evStep call o s h with
    | none => rfl
    | some p =>
      obtain ⟨s', h'⟩ := p
      have := evSeq_range cops r (pre ++ [o]) s' h' (by rw [e]; simp)
      simpa using this

omit [LoopSpec] in
theorem move_front {cops : List COper} {i : Nat} {oi : COper} (hp : PureOk pu call) (hc : WfOk call) (hi : cops[i]? = some oi) : ∀ (pre post : List Nat) (s : Fr) (h : AH) (F : Fr × AH), WFH h →
    (∀ j ∈ pre, ∃ oj, cops[j]? = some oj ∧ apartC pu oj oi = true) → evSeq call cops (pre ++ i :: post) s h = some F → evSeq call cops (i :: (pre ++ post)) s h = some F
  | [], post, s, h, F, _, _, e => e
  | j :: pre, post, s, h, F, hw, ha, e => by
    obtain ⟨oj, hj, hap⟩ := ha j (by simp)
    simp only [List.cons_append, evSeq, hj] at e
    cases h1 : evStep call oj s h with
    | none => simp [h1] at e
    | some p =>
      obtain ⟨s1, hh1⟩ := p
      simp only [h1] at e
      have ih := move_front hp hc hi pre post s1 hh1 F (evStep_wf hc hw h1) (fun k hk => ha k (by simp [hk])) e
      simp only [evSeq, hi] at ih
      cases h2 : evStep call oi s1 hh1 with
      | none => simp [h2] at ih
      | some p =>
        obtain ⟨s2, hh2⟩ := p
        simp only [h2] at ih
        obtain ⟨s1', h1', k1, k2⟩ := swap2 hp hc hw hap h1 h2
        simp only [List.cons_append, evSeq, hi, hj, k1, k2]
        exact ih

omit [LoopSpec] in
theorem evSeq_append {cops : List COper} : ∀ (l1 l2 : List Nat) (s : Fr) (h : AH), evSeq call cops (l1 ++ l2) s h = match evSeq call cops l1 s h with | some (s', h') => evSeq call cops l2 s' h' | none => none
  | [], l2, s, h => rfl
  | i :: l1, l2, s, h => by
    simp only [List.cons_append, evSeq]
    cases hc : cops[i]? with
    | none => rfl
    | some o =>
      simp only
      cases hst : evStep call o s h with
      | none => rfl
      | some p => obtain ⟨s', h'⟩ := p; exact evSeq_append l1 l2 s' h'

omit [LoopSpec] in
/-- Slots that no step writes. -/
theorem evSeq_slots {cops : List COper} {t : Nat} : ∀ (l : List Nat) (s : Fr) (h : AH) (s' : Fr) (h' : AH), (∀ j ∈ l, ∀ c, cops[j]? = some c → c.dst ≠ some t) → evSeq call cops l s h = some (s', h') → s' t = s t
  | [], s, h, s', h', _, e => by cases e; rfl
  | j :: l, s, h, s', h', hl, e => by
    simp only [evSeq] at e
    cases hc : cops[j]? with
    | none => simp [hc] at e
    | some c =>
      simp only [hc] at e
      cases hst : evStep call c s h with
      | none => simp [hst] at e
      | some p =>
        obtain ⟨s2, h2⟩ := p
        simp only [hst] at e
        obtain ⟨v, rfl, _⟩ := evStep_inv hst
        rw [evSeq_slots l _ h2 s' h' (fun k hk => hl k (by simp [hk])) e]
        exact put_get fun z hz q => hl j (by simp) c hc (by rw [hz, q])

omit [LoopSpec] in
/-- What is ahead of a call, done behind it. -/
theorem pre_behind {cops : List COper} {i : Nat} {oi : COper} (hp : PureOk pu call) (hwf : WfOk call) (ho : (weakOf oi.op).isSome = true) {v : PV} {h2 : AH} :
    ∀ (pre : List Nat) (s : Fr) (h : AH) (sk : Fr) (hk : AH), WFH h → pre.Pairwise (· < ·) → (∀ j ∈ pre, j < i) → (∀ j ∈ pre, ∃ oj, cops[j]? = some oj ∧ callPair pu cops j i oj oi = true) → evSeq call cops pre s h = some (sk, hk) →
      hk = h ∧ ((∀ g n t, sepPair (.load g n (.t t)) oi.op = true → ∀ r, ldv h g n (sk t) = some r → ldv h2 g n (sk t) = some r) → evSeq call cops pre (Fr.put s oi.dst v) h2 = some (Fr.put sk oi.dst v, h2))
  | [], s, h, sk, hk, _, _, _, _, e => by cases e; exact ⟨rfl, fun _ => rfl⟩
  | j :: pre, s, h, sk, hk, hw, hsort, hlt, hpair, e => by
    obtain ⟨oj, hj, hcp⟩ := hpair j (by simp)
    have hcp0 := hcp
    unfold callPair at hcp
    rw [if_pos ho] at hcp
    simp only [Bool.and_eq_true, Bool.or_eq_true, beq_iff_eq] at hcp
    obtain ⟨⟨⟨a1, a2⟩, a3⟩, a4⟩ := hcp
    simp only [evSeq, hj] at e
    cases hst : evStep call oj s h with
    | none => simp [hst] at e
    | some p =>
      obtain ⟨s1, h1⟩ := p
      simp only [hst] at e
      obtain ⟨vj, rfl, q⟩ := evStep_inv hst
      obtain ⟨q0, q1, _⟩ := step_heap hp hw q
      have hcls : cls pu oj.op = 0 ∨ cls pu oj.op = 1 := by
        rcases a4 with g | g
        · exact .inl g
        · right
          split at g
          · rename_i hop; rw [hop]; rfl
          · cases g
      have hh : h1 = h := by
        rcases hcls with g | g
        · exact (q0 g).1
        · exact (q1 g).1
      subst hh
      obtain ⟨hs1, hs2⟩ := List.pairwise_cons.1 hsort
      obtain ⟨r1, r2⟩ := pre_behind hp hwf ho (v := v) (h2 := h2) pre _ h1 sk hk hw hs2 (fun k hk => hlt k (by simp [hk])) (fun k hk => hpair k (by simp [hk])) e
      refine ⟨r1, fun hck => ?_⟩
      subst r1
      have hn2 := notIn_spec a2
      have hne : ∀ p q, oj.dst = some p → oi.dst = some q → p ≠ q := by
        intro p q hp hq
        rw [hp, hq] at a3
        simpa using a3
      have q' := step_slots (s2 := Fr.put s oi.dst v) (fun t ht => (put_get (fun z hz => hn2 t ht z hz)).symm) q
      have hstep : evStep call oj (Fr.put s oi.dst v) h2 = some (Fr.put (Fr.put s oi.dst v) oj.dst vj, h2) := by
        refine evStep_mk ?_
        obtain ⟨p0, p1, _⟩ := step_heap hp hw q'
        rcases a4 with g | g
        · exact (p0 g).2 h2
        · split at g
          case h_2 => cases g
          rename_i gg n t hop
          simp only [Bool.and_eq_true, List.all_eq_true] at g
          obtain ⟨g1, g2⟩ := g
          rcases q' with ⟨b1, b2⟩ | ⟨b1, b2, _⟩
          · refine .inl ⟨b1, ?_⟩
            have b3 := (evOpB_inv b2).2
            rw [hop] at b3 ⊢
            refine evOpB_mk rfl ?_
            simp only [evOp] at b3 ⊢
            obtain ⟨b4, _⟩ := keep_inv b3
            have b5 : ldv hk gg n (Fr.put s oi.dst v t) = some vj := b4
            -- the slot is what it is behind all
            have htk : sk t = s t := by
              have hnw : ∀ k ∈ j :: pre, ∀ c, cops[k]? = some c → c.dst ≠ some t := by
                intro k hk c hc q
                have hkj : j ≤ k := by
                  rcases List.mem_cons.1 hk with rfl | hk
                  · exact Nat.le_refl _
                  · exact Nat.le_of_lt (hs1 k hk)
                have hki : k < i := hlt k hk
                have := g2 k (List.mem_range'_1.2 ⟨hkj, by omega⟩)
                rw [hc] at this
                simp [q] at this
              refine evSeq_slots (call := call) (j :: pre) s hk sk hk hnw ?_
              simp only [evSeq, hj, hst]
              exact e
            have htd : Fr.put s oi.dst v t = s t := put_get fun z hz => hn2 t (by simp [COper.reads, hop, COp.slots, Opd.slots]) z hz
            rw [htd, ← htk] at b5
            have b6 := hck gg n t g1 vj b5
            show keep h2 (ldv h2 gg n (Opd.val (Fr.put s oi.dst v) (.t t))) = some (vj, h2)
            simp only [Opd.val]
            rw [htd, ← htk, b6]
            rfl
          · exact .inr ⟨b1, b2, rfl⟩
      simp only [evSeq, hj, hstep]
      rw [put_comm (fun p q hp hq => (hne q p hq hp).symm)]
      exact r2 hck

/-- A step, without its check. -/
def Weak (c c' : COper) : Prop := c' = c ∨ ∃ o', weakOf c.op = some o' ∧ c' = { c with op := o' }

omit [LoopSpec] in
theorem weak_ev {o o' : COp} {s : Fr} {h h' : AH} {v : PV} (hw : weakOf o = some o') (e : evOpB call o s h = some (v, h')) : evOpB call o' s h = some (v, h') := by
  obtain ⟨e1, e2⟩ := evOpB_inv e
  cases o <;> simp [weakOf] at hw <;> subst hw
  · refine evOpB_mk e1 ?_
    simp only [evOp] at e2 ⊢
    split at e2
    · exact e2
    · cases e2
  · refine evOpB_mk e1 ?_
    simp only [evOp] at e2 ⊢
    split at e2
    · exact e2
    · cases e2
  · refine evOpB_mk e1 ?_
    simp only [evOp] at e2 ⊢
    split at e2
    · rename_i v1 h1 hcall
      split at e2
      · rw [hcall]; exact e2
      · cases e2
    · cases e2

omit [LoopSpec] in
theorem move_any {cops : List COper} {i : Nat} {oi : COper} (hp : PureOk pu call) (hc : WfOk call) (hi : cops[i]? = some oi) (pre post : List Nat) (s : Fr) (h : AH) (F : Fr × AH) (hw : WFH h) (hsort : pre.Pairwise (· < ·)) (hlt : ∀ j ∈ pre, j < i)
    (ha : ∀ j ∈ pre, ∃ oj, cops[j]? = some oj ∧ callPair pu cops j i oj oi = true) (e : evSeq call cops (pre ++ i :: post) s h = some F) : ∃ c' s1 h1, Weak oi c' ∧ evStep call c' s h = some (s1, h1) ∧ evSeq call cops (pre ++ post) s1 h1 = some F := by
  cases hwk : weakOf oi.op with
  | some o' =>
    have ho : (weakOf oi.op).isSome = true := by rw [hwk]; rfl
    rw [evSeq_append] at e
    cases h1 : evSeq call cops pre s h with
    | none => simp [h1] at e
    | some p =>
      obtain ⟨sk, hk⟩ := p
      simp only [h1, evSeq, hi] at e
      cases hst : evStep call oi sk hk with
      | none => simp [hst] at e
      | some p =>
        obtain ⟨s2, h2⟩ := p
        simp only [hst] at e
        obtain ⟨v, rfl, q⟩ := evStep_inv hst
        obtain ⟨rfl, hback⟩ := pre_behind (v := v) (h2 := h2) hp hc ho pre s h sk hk hw hsort hlt ha h1
        -- the slots that it looks at
        have hsl : ∀ t ∈ oi.args, sk t = s t := fun t ht => by
          refine evSeq_slots pre s hk sk hk (fun j hj c hc q => ?_) h1
          obtain ⟨oj, g1, g2⟩ := ha j hj
          rw [hc] at g1
          cases g1
          unfold callPair at g2
          rw [if_pos ho] at g2
          simp only [Bool.and_eq_true] at g2
          exact notIn_spec g2.1.1.1 t ht t q rfl
        have hwt : wants oi.guard s = wants oi.guard sk := wants_congr fun t b hg => (hsl t (List.mem_append_right _ (by rw [hg]; simp))).symm
        refine ⟨{ oi with op := o' }, Fr.put s oi.dst v, h2, .inr ⟨o', hwk, rfl⟩, ?_, ?_⟩
        · refine evStep_mk (o := { oi with op := o' }) ?_
          rcases q with ⟨b1, b2⟩ | ⟨b1, b2, b3⟩
          · refine .inl ⟨by show wants oi.guard s = true; rw [hwt]; exact b1, ?_⟩
            rw [← weak_ev hwk b2]
            exact evOpB_congr fun t ht => (hsl t (List.mem_append_left _ (by rw [hwk]; exact ht))).symm
          · exact .inr ⟨by show wants oi.guard s = false; rw [hwt]; exact b1, b2, b3⟩
        · rw [evSeq_append, hback ?_]
          · exact e
          · intro g n t hg r hr
            rcases q with ⟨b1, b2⟩ | ⟨b1, b2, b3⟩
            · obtain ⟨g', n', t', k1, k2⟩ := sep_keep hw hg (evOpB_inv b2).2
              cases k1
              exact k2 r hr
            · rw [b3]; exact hr
  | none =>
    have : evSeq call cops (i :: (pre ++ post)) s h = some F := move_front hp hc hi pre post s h F hw (fun j hj => by
      obtain ⟨oj, g1, g2⟩ := ha j hj
      refine ⟨oj, g1, ?_⟩
      unfold callPair at g2
      rw [if_neg (by rw [hwk]; simp)] at g2
      exact g2) e
    simp only [evSeq, hi] at this
    cases hst : evStep call oi s h with
    | none => simp [hst] at this
    | some p =>
      obtain ⟨s1, h1⟩ := p
      simp only [hst] at this
      exact ⟨oi, s1, h1, .inl rfl, hst, this⟩

omit [LoopSpec] in
theorem befs_spec : ∀ (l acc : List (List Nat)), (∀ i, i < acc.length → (befs acc l).getD i [] = acc.getD i []) ∧
    ∀ i, acc.length ≤ i → i < acc.length + l.length → ∀ j ∈ (befs acc l).getD i [], j ∈ l.getD (i - acc.length) [] ∨ ∃ e ∈ l.getD (i - acc.length) [], e < i ∧ j ∈ (befs acc l).getD e []
  | [], acc => by
    refine ⟨fun i _ => rfl, fun i h1 h2 => ?_⟩
    simp at h2; omega
  | es :: l, acc => by
    obtain ⟨ih1, ih2⟩ := befs_spec l (acc ++ [(es ++ es.flatMap fun e => acc.getD e []).eraseDups])
    simp only [List.length_append, List.length_singleton] at ih1 ih2
    refine ⟨fun i hi => ?_, fun i h1 h2 j hj => ?_⟩
    · have := ih1 i (by omega)
      simp only [befs]
      rw [this]
      simp [List.getD_eq_getElem?_getD, List.getElem?_append_left hi]
    · simp only [List.length_cons] at h2
      simp only [befs] at hj ⊢
      by_cases q : i = acc.length
      · subst q
        rw [ih1 acc.length (by omega)] at hj
        have e0 : (acc ++ [(es ++ es.flatMap fun e => acc.getD e []).eraseDups]).getD acc.length [] = (es ++ es.flatMap fun e => acc.getD e []).eraseDups := by simp
        rw [e0, List.mem_eraseDups] at hj
        simp only [Nat.sub_self, List.getD_cons_zero]
        rcases List.mem_append.1 hj with g | g
        · exact .inl g
        · obtain ⟨e, he, hj'⟩ := List.mem_flatMap.1 g
          have hlt : e < acc.length := by
            rcases Nat.lt_or_ge e acc.length with q | q
            · exact q
            · simp [List.getD_eq_getElem?_getD, List.getElem?_eq_none q] at hj'
          refine .inr ⟨e, he, hlt, ?_⟩
          rw [ih1 e (by omega)]
          simpa [List.getD_eq_getElem?_getD, List.getElem?_append_left hlt] using hj'
      · have := ih2 i (by omega) (by omega) j hj
        have e1 : i - acc.length = (i - (acc.length + 1)) + 1 := by omega
        rw [e1]
        simpa using this
end
end Go.Ev

/- Statements: where the abstract machine gets through, the machine does, and to what stands for it. -/
set_option linter.unusedVariables false
set_option linter.unusedSimpArgs false
namespace Go.Ev
variable [LoopSpec]
section
variable {P : Program} {call : Nat → List PV → AH → Option (PV × AH)} {pu : Nat → Bool}

/-- A function that can be entered. -/
def Callable (P : Program) (f : Nat) : Prop := ∃ fn, P.funcs[f]? = some fn ∧ (fn.name == "runtime.NumGoroutine") = false ∧ fn.body.isNone = false

/-- What a call leaves. -/
def Post (ρ : Nat → Option (Nat × Nat)) (I : Nat → Prop) (h : AH) (w : World) (r : PV) (h' : AH) : Ending → World → Prop :=
  fun e w' => ∃ ρ' I' u, e = .returned u ∧ St ρ I h w ρ' I' h' w' ∧ SR ρ' I' h' w' ∧ VR ρ' I' w' u r

/-- A fence that lets all in; 'r': the frames are a round's. -/
def FW (r : Option Nat) : Fence := { Fence.wide with round := r }
omit [LoopSpec] in
theorem FW_fn {r : Option Nat} {f : FuncId} : (FW r).fn f := trivial
omit [LoopSpec] in
theorem FW_depth {r : Option Nat} : (FW r).depth.isSome = true → 1 ≤ 0 := fun h => by simp [FW, Fence.wide] at h
omit [LoopSpec] in
theorem FW_room {r : Option Nat} {n : Nat} : (FW r).room n := fun _ h => by simp [FW, Fence.wide] at h
omit [LoopSpec] in
theorem callsIn_FW {r : Option Nat} {n : Nat} {P : Program} {f : FuncId} {args : Array Value} {w : World} {R : Ending → World → Prop} : CallsIn (FW r) n P f args w R ↔ Calls P f args w R := callsIn_wide (n := n)

/-- Calls are what is evaluated; so are the rounds of ranges over functions. -/
structure CallOk (P : Program) (call : Nat → List PV → AH → Option (PV × AH)) : Prop where
  fn : ∀ f as h r h', f < yb → call f as h = some (r, h') → Callable P (rl f) ∧ ∀ ρ I w us, SR ρ I h w → VRL ρ I w us as → Calls P (rl f) us w (Post ρ I h w r h')
  rd : ∀ i as h r h', call (yb + i) as h = some (r, h') → ∀ ρ I w us b o, SR ρ I h w → VRL ρ I w us as → ρ i = some (b, o) → ∃ rec : Loop, w.heap[b]? = some (.loop rec) ∧ us.size = rec.params.size ∧
    ∀ r0, RoundIn (FW r0) 0 P b rec.fn ((rec.params.zip us).foldl (fun tmps (t, a) => tmps.setIfInBounds t a) rec.tmps) rec.assign rec.body w (Post ρ I h w r h')

variable {ρ : Nat → Option (Nat × Nat)} {I : Nat → Prop} {h h' : AH} {w : World} {nt : Nat} {Bo : Nat × List Deferred × Bool} {a : Act} {s s' : Fr} {v : PV}

omit [LoopSpec] in
theorem run_callFunc {f : Nat} {args : Array Value} (hf : Callable P f) : (callFunc f args).run P w = .ok (.enter f args) w := by
  obtain ⟨fn, h1, h2, h3⟩ := hf
  simp only [callFunc, Sem.run_bind, run_program, Result.andThen_ok, h1]
  simp [h2, h3]

omit [LoopSpec] in
theorem VRL.append {us vs : Array Value} {as bs : List PV} (h1 : VRL ρ I w us as) (h2 : VRL ρ I w vs bs) : VRL ρ I w (us ++ vs) (as ++ bs) := by
  obtain ⟨a1, a2⟩ := h1
  obtain ⟨b1, b2⟩ := h2
  refine ⟨by simp [a1, b1], fun j hj => ?_⟩
  have hj' : j < as.length + bs.length := by simpa using hj
  simp only [Array.getD_eq_getD_getElem?, Array.getElem?_append, List.getElem_append]
  by_cases q : j < as.length
  · rw [if_pos (by omega)]
    simp only [q, dite_true]
    have := a2 j q
    simpa [Array.getD_eq_getD_getElem?] using this
  · rw [if_neg (by omega)]
    simp only [q, dite_false]
    have := b2 (j - as.length) (by omega)
    rw [a1]
    simpa [Array.getD_eq_getD_getElem?] using this

omit [LoopSpec] in
/-- A call among the operations. -/
theorem call_run {o : Oper} {c : COp} {ow : Nat} {c' : Call} (ho : o.op = .call c') (hc : compOp P ow o.op = some c) (hf : FR Bo ρ I w nt a s) (ev : evOp call c s h = some (v, h')) (hn : c.notCall = false) (hco : ∀ f as h r h', f < yb → call f as h = some (r, h') → Callable P (rl f)) :
    (∃ f us as, f < yb ∧ call f as h = some (v, h') ∧ VRL ρ I w us as ∧ (execOp a.eval o).run P w = .ok (.enter (rl f) us) w) ∨
    (∃ i us as b o', call (yb + i) as h = some (v, h') ∧ VRL ρ I w us as ∧ ρ i = some (b, o') ∧ (execOp a.eval o).run P w = (Instr.yield b us).run P w) := by
  · rw [ho] at hc
    obtain ⟨cal, args, ats⟩ := c'
    simp only [compOp, compCall] at hc
    have amap : ∀ xs, opds args.toList = some xs → VRL ρ I w (args.map a.eval) (xs.map (Opd.val s)) := by
      intro xs hx
      have := opds_vr _ _ hx hf
      have e : (args.toList.map a.eval).toArray = args.map a.eval := by
        rw [← Array.toList_inj]; simp
      rw [e] at this
      exact this
    split at hc
    · rename_i f
      split at hc
      · split at hc
        · cases hc; cases hn
        · cases hc
      split at hc
      · rename_i hlt
        simp only [Option.map_eq_some_iff] at hc
        obtain ⟨xs, hx, rfl⟩ := hc
        have hyb : (if ow = 1 then f + vb else f) < yb := by
          have : vb + vb < yb := by decide
          have h0 : 0 < vb := by decide
          have h1 : f < vb := hlt
          have h2 : f + vb < yb := Nat.lt_trans (Nat.add_lt_add_right h1 vb) this
          split
          · exact h2
          · exact Nat.lt_of_le_of_lt (Nat.le_add_right f vb) h2
        refine .inl ⟨_, args.map a.eval, _, hyb, ev, amap xs hx, ?_⟩
        have hcl := hco _ _ _ _ _ hyb ev
        have hrl : rl (if ow = 1 then f + vb else f) = f := by
          unfold rl
          split
          · rw [Nat.add_mod_right, Nat.mod_eq_of_lt hlt]
          · exact Nat.mod_eq_of_lt hlt
        rw [hrl] at hcl ⊢
        simp only [execOp, ho, resolve, Act.eval, Deferred.ofValue]
        simp [invoke, run_callFunc hcl]
      · cases hc
    · rename_i x hne
      split at hc
      · rename_i X xs hX hx
        have hc := Option.some.inj hc
        by_cases how : 2 ≤ ow
        case pos =>
          rw [if_pos how] at hc
          subst hc
          simp only [evOp] at ev
          split at ev
          · rename_i g' hg
            split at ev
            case isFalse => cases ev
            rename_i hlt
            obtain ⟨hgg, hlt⟩ := hlt
            subst hgg
            have hv := opd_vr hX hf
            rw [hg] at hv
            have hyb : ow - 2 < yb := Nat.lt_trans hlt (by decide)
            have hcl := hco _ _ _ _ _ hyb ev
            have hrl : rl (ow - 2) = ow - 2 := Nat.mod_eq_of_lt hlt
            rw [hrl] at hcl
            generalize hux : a.eval x = ux at hv
            cases hv with
            | fn h1 h2 h3 h4 =>
              rename_i F C
              obtain rfl : F = #[] := Array.eq_empty_of_size_eq_zero (by simpa using h1)
              obtain rfl : C = #[] := Array.eq_empty_of_size_eq_zero (by simpa using h2)
              refine .inl ⟨ow - 2, args.map a.eval, _, hyb, ev, amap xs hx, ?_⟩
              rw [hrl]
              simp only [execOp, ho, resolve, hux, Deferred.ofValue]
              simp [invoke, run_callFunc hcl]
          · cases ev
        rw [if_neg how] at hc
        subst hc
        simp only [evOp] at ev
        split at ev
        · rename_i g fs cs hg
          split at ev
          case isFalse => cases ev
          rename_i hlt
          have hv := opd_vr hX hf
          rw [hg] at hv
          have hyb : g < yb := Nat.lt_trans hlt (by decide)
          have hcl := hco _ _ _ _ _ hyb ev
          have hrl : rl g = g := Nat.mod_eq_of_lt hlt
          rw [hrl] at hcl
          generalize hux : a.eval x = ux at hv
          cases hv with
          | fn h1 h2 h3 h4 =>
            rename_i F C
            refine .inl ⟨g, F ++ args.map a.eval ++ C, _, hyb, ev, ?_, ?_⟩
            rotate_left
            · rw [hrl]
              simp only [execOp, ho, resolve, hux, Deferred.ofValue]
              simp [invoke, run_callFunc hcl]
            · exact (VRL.append ⟨h1, h3⟩ (amap xs hx)).append ⟨h2, h4⟩
        · rename_i i hg
          have hv := opd_vr hX hf
          rw [hg] at hv
          generalize hux : a.eval x = ux at hv
          cases hv with
          | yl hρ =>
            refine .inr ⟨_, args.map a.eval, _, _, _, ev, amap xs hx, hρ, ?_⟩
            simp only [execOp, ho, resolve, hux, Deferred.ofValue]
            simp [invoke]
        · cases ev
      · cases hc
    · cases hc
    · (repeat' split at hc) <;> first
        | (cases hc; cases hn)
        | (cases hc; done)
        | (obtain ⟨_, _, rfl⟩ := Option.map_eq_some_iff.1 hc; cases hn)
        | (cases hc; revert hn; split <;> (intro hn; cases hn))

omit [LoopSpec] in
theorem oper_in {r : Option Nat} {o : Oper} {K : Act → World → Prop} {Q : Exit → Act → World → Prop} (hnd : ∀ c, o.op ≠ .defer c) (h : o.uponIn (FW r) 0 P a K Q ((execOp a.eval o).run P w)) : o.wpIn (FW r) 0 P a w K Q :=
  ⟨fun _ _ => trivial, by rw [Oper.semAt_eq _ _ _ hnd]; exact h⟩
omit [LoopSpec] in
theorem wpIn_scope {F : Fence} {n : Nat} {P : Program} {Q : Exit → Act → World → Prop} {a : Act} {w : World} {c : Code} (h : c.wpIn F n P (Exit.noGoto Q) a w) : (Code.scope c).wpIn F n P Q a w := by
  intro b k cs hro hb hr
  have h0 : (lone (b.atR a (.code (.scope c) :: k)) cs w).fenced P F := fenced_calm hb hr rfl
  have s0 : step P (lone (b.atR a (.code (.scope c) :: k)) cs w) = .next (lone (b.atR a (.code c :: .inScope c :: k)) cs w) := step_lone_go (by simp [stepG, stepG.exec, Frame.atR])
  obtain ⟨e, a₁, w₁, hq, harr⟩ := h b (.inScope c :: k) cs hro hb hr
  cases e with
  | normal => exact ⟨.normal, a₁, w₁, hq, .head h0 s0 (StepsIn.trans harr (.one (fenced_calm hb hr rfl) (step_lone_go (by simp [stepG, stepG.exec, Frame.atR]))))⟩
  | exit id =>
    have hx : exitTo id (.inScope c :: k) = exitTo id k := by simp [exitTo]
    exact ⟨_, a₁, w₁, hq, fun k' hk => .head h0 s0 (harr.1 k' (by rw [hx]; exact hk)), fun hr' hk => let ⟨k₁, h1, h2⟩ := harr.2 hr' (by rw [hx]; exact hk); ⟨k₁, h1, .head h0 s0 h2⟩⟩
  | goto l => exact hq.elim
  | ret => exact ⟨_, a₁, w₁, hq, .of_steps (.one h0 s0) harr⟩
  | panic ch => exact ⟨_, a₁, w₁, hq, .of_steps (.one h0 s0) harr⟩
  | outgrown => exact ⟨_, a₁, w₁, hq, .of_steps (.one h0 s0) harr⟩
omit [LoopSpec] in
theorem compOp_nodefer {ow : Nat} {op : Op} {c : COp} (hc : compOp P ow op = some c) : ∀ d, op ≠ .defer d := by
  rintro d rfl; simp [compOp] at hc

/-- One operation. -/
theorem wp_oper {r : Option Nat} {o : Oper} {c : COp} {ow : Nat} {K : Act → World → Prop} {Q : Exit → Act → World → Prop} (hc : compOp P ow o.op = some c) (hf : FR Bo ρ I w nt a s) (hs : SR ρ I h w) (ev : evOp call c s h = some (v, h')) (hco : CallOk P call)
    (hK : ∀ u w' ρ' I', St ρ I h w ρ' I' h' w' → SR ρ' I' h' w' → VR ρ' I' w' u v → K (a.put o.dst u) w') : o.wpIn (FW r) 0 P a w K Q := by
  refine oper_in (compOp_nodefer hc) ?_
  by_cases hcall : (∃ c', o.op = .call c') ∧ c.notCall = false
  · obtain ⟨⟨c', ho⟩, hn⟩ := hcall
    rcases call_run ho hc hf ev hn (fun f as h r h' hy e => (hco.fn f as h r h' hy e).1) with ⟨f, us, as, hyb, e1, e2, e3⟩ | ⟨i, us, as, b, o', e1, e2, e3, e4⟩
    · obtain ⟨_, hcalls⟩ := hco.fn _ _ _ _ _ hyb e1
      rw [e3]
      refine ⟨FW_depth, callsIn_FW.2 ((hcalls ρ I w us hs e2).mono fun e w' he => ?_)⟩
      obtain ⟨ρ', I', u, rfl, st, hs', hv⟩ := he
      exact hK u w' ρ' I' st hs' hv
    · obtain ⟨rec, k1, k2, k3⟩ := hco.rd i as h v h' e1 ρ I w us b o' hs e2 e3
      rw [e4, run_yield k1 k2]
      refine ⟨FW_depth, (k3 r).mono fun e w' he => ?_⟩
      obtain ⟨ρ', I', u, rfl, st, hs', hv⟩ := he
      exact hK u w' ρ' I' st hs' hv
  · have hn : ∀ c', o.op = .call c' → c.notCall = true := by
      intro c' ho
      cases hq : c.notCall with
      | true => rfl
      | false => exact absurd ⟨⟨c', ho⟩, hq⟩ hcall
    obtain ⟨u, w', ρ', I', hr, st, hs', hv⟩ := op_out hc hf hs ev hn
    rcases hr with hr | ⟨hr, rfl⟩
    · rw [hr]; exact hK u w' ρ' I' st hs' hv
    · rw [hr]; exact hK _ w' ρ' I' st hs' hv

/-- An operation in another form: with a check. -/
def cv (c0 c : COp) : Prop := c = c0 ∨ (∃ ts n a x, c0 = .store n a x ∧ c = .storeS ts n a x) ∨ (∃ ts z b x y, c0 = .app z b x y ∧ c = .appS ts z b x y) ∨
  (∃ g n a, c0 = .load g n a ∧ c = .loadi g n a) ∨ ∃ ls f as, c0 = .call f as ∧ c = .callS ls f as

omit [LoopSpec] in
theorem cv_ev {c0 c : COp} {h h' : AH} {v : PV} {s : Fr} (hc : cv c0 c) (e : evOp call c s h = some (v, h')) : evOp call c0 s h = some (v, h') := by
  rcases hc with rfl | ⟨ts, n, a, x, rfl, rfl⟩ | ⟨ts, z, b, x, y, rfl, rfl⟩ | ⟨g, n, a, rfl, rfl⟩ | ⟨ls, f, as, rfl, rfl⟩
  · exact e
  · simp only [evOp] at e ⊢
    split at e
    · exact e
    · cases e
  · simp only [evOp] at e ⊢
    split at e
    · exact e
    · cases e
  · simp only [evOp] at e ⊢
    split at e
    · rename_i cs hcs; rw [hcs]; exact e
    · cases e
  · simp only [evOp] at e ⊢
    split at e
    · rename_i v1 h1 hcall
      split at e
      · rw [hcall]; exact e
      · cases e
    · cases e

omit [LoopSpec] in
theorem compOp_noS {op : Op} {b : Nat} {c o' : COp} (hc : compOp P b op = some c) (hw : weakOf c = some o') : False := by
  have hc' : ∃ c, compOp P b op = some c ∧ ((∃ ls f as, c = .callS ls f as) ∨ (∃ ts z b x y, c = .appS ts z b x y) ∨ ∃ ts n a x, c = .storeS ts n a x) := by
    refine ⟨c, hc, ?_⟩
    cases c <;> simp [weakOf] at hw
    · exact .inr (.inr ⟨_, _, _, _, rfl⟩)
    · exact .inr (.inl ⟨_, _, _, _, _, rfl⟩)
    · exact .inl ⟨_, _, _, rfl⟩
  clear hc hw
  obtain ⟨c, hc, ⟨_, _, _, rfl⟩ | ⟨_, _, _, _, _, rfl⟩ | ⟨_, _, _, _, rfl⟩⟩ := hc'
  all_goals cases op <;> first
    | (simp only [compOp, compCall, reduceCtorEq] at hc; done)
    | (simp only [compOp, compCall, Option.map_eq_some_iff, reduceCtorEq, and_false, exists_false] at hc; done)
    | (simp only [compOp, compCall] at hc
       (repeat' split at hc) <;> first
         | (cases hc; done)
         | (simp [Option.map_eq_some_iff] at hc; done)
         | (simp only [Option.map_eq_some_iff, Option.bind_eq_some_iff, Function.comp_def, reduceCtorEq, and_false, exists_false] at hc; done)
         | contradiction
         | (simp [Option.bind_eq_some_iff] at hc; done)
         | (simp only [Option.some.injEq] at hc; split at hc <;> cases hc; done)
         | (simp only [Option.map_eq_some_iff] at hc; obtain ⟨_, _, hc⟩ := hc; split at hc <;> first | (cases hc; done) | (split at hc <;> cases hc))
         | (simp only [compBin] at hc
            (repeat' split at hc) <;> first
              | (cases hc; done)
              | (simp [Option.map_eq_some_iff] at hc; done)
              | (simp [Option.bind_eq_some_iff] at hc; done)
              | contradiction))

/- The region's operations and the translation's. -/
structure Pair (P : Program) (ow : Nat → Nat) (nt : Nat) (all : Array Oper) (o : Oper) (c : COper) : Prop where
  dst : c.dst = o.dst
  op : (∃ b c0, compOp P b o.op = some c0 ∧ cv c0 c.op) ∨ c.op = .bad
  dlt : ∀ d, o.dst = some d → d < nt
  guard : (o.guard = none ∧ c.guard = none) ∨ ∃ j want d, o.guard = some (j, want) ∧ (all[j]?).bind (·.dst) = some d ∧ c.guard = some (d, want) ∧ d < nt

omit [LoopSpec] in
theorem Pair.weak {ow : Nat → Nat} {all : Array Oper} {o : Oper} {c c' : COper} (h : Pair P ow nt all o c) (hw : Weak c c') : Pair P ow nt all o c' := by
  rcases hw with rfl | ⟨o', ho, rfl⟩
  · exact h
  · refine ⟨h.dst, ?_, h.dlt, h.guard⟩
    rcases h.op with ⟨b, c0, h1, h2⟩ | h1
    · rcases h2 with q | ⟨ts, n, a, x, q1, q⟩ | ⟨ts, z, bb, x, y, q1, q⟩ | ⟨g, n, a, q1, q⟩ | ⟨ls, f, as, q1, q⟩
      · rw [q] at ho; exact (compOp_noS h1 ho).elim
      · rw [q] at ho; simp [weakOf] at ho; subst ho; exact .inl ⟨b, c0, h1, .inl q1.symm⟩
      · rw [q] at ho; simp [weakOf] at ho; subst ho; exact .inl ⟨b, c0, h1, .inl q1.symm⟩
      · rw [q] at ho; simp [weakOf] at ho
      · rw [q] at ho; simp [weakOf] at ho; subst ho; exact .inl ⟨b, c0, h1, .inl q1.symm⟩
    · rw [h1] at ho; cases ho
omit [LoopSpec] in
theorem Weak.eq_of {c c' : COper} (hw : Weak c c') (h : weakOf c.op = none) : c' = c := by
  rcases hw with q | ⟨o', ho, _⟩
  · exact q
  · rw [h] at ho; cases ho

omit [LoopSpec] in
theorem compOpers_get {ow : Nat → Nat} {all : Array Oper} : ∀ (ops : List Oper) (cops : List COper), compOpers P ow nt all ops = some cops → cops.length = ops.length ∧ ∀ (i : Nat) o c, ops[i]? = some o → cops[i]? = some c → Pair P ow nt all o c
  | [], cops, e => by cases e; exact ⟨rfl, fun i o c h => by simp at h⟩
  | o :: r, cops, e => by
    simp only [compOpers] at e
    split at e
    · rename_i g rest hg hr
      split at e
      · rename_i hok
        cases e
        obtain ⟨h1, h2⟩ := compOpers_get r rest hr
        refine ⟨by simp [h1], fun i o' c' ho hc => ?_⟩
        cases i with
        | succ i => exact h2 i o' c' (by simpa using ho) (by simpa using hc)
        | zero =>
          simp at ho hc
          subst ho hc
          simp only [slotsOk, Bool.and_eq_true] at hok
          obtain ⟨k1, k2⟩ := hok
          refine ⟨rfl, ?_, ?_, ?_⟩
          · simp only
            cases hcomp : compOp P (match o.dst with | some d => ow d | none => 0) o.op with
            | none => right; rfl
            | some c => left; exact ⟨_, _, hcomp, .inl rfl⟩
          · intro d hd
            rw [hd] at k1
            simpa using k1
          · simp only [compGuard] at hg
            split at hg
            · rename_i hgn
              cases hg
              exact .inl ⟨hgn, rfl⟩
            · rename_i j want hgs
              split at hg
              · rename_i d hd
                cases hg
                exact .inr ⟨j, want, d, hgs, hd, rfl, by simpa using k2⟩
              · cases hg
      · cases e
    · cases e

omit [LoopSpec] in
theorem wanted_eq {ow : Nat → Nat} {all : Array Oper} {o : Oper} {c : COper} (hp : Pair P ow nt all o c) (hf : FR Bo ρ I w nt a s) : Region.wanted o (yielded all a.tmps) = wants c.guard s := by
  rcases hp.guard with ⟨h1, h2⟩ | ⟨j, want, d, h1, h2, h3, h4⟩
  · simp [Region.wanted, h1, h2, wants]
  · have hv := hf.slot d
    have hlt : d < a.tmps.size := Nat.lt_of_lt_of_le h4 hf.size
    have hg : a.tmps[d]? = some (a.tmps.getD d undef) := by simp [Array.getD, hlt]
    simp only [Region.wanted, h1, h3, wants, yielded, h2, Option.bind_some, hg]
    generalize a.tmps.getD d undef = x at hv
    generalize s d = y at hv
    cases hv <;> first | rfl | (rename_i b; cases b <;> cases want <;> rfl) | skip
    rename_i h9
    cases x <;> first | rfl | (simp [anyOk] at h9)

/-- One step of a region. -/
theorem wp_step {r : Option Nat} {ow : Nat → Nat} {all : Array Oper} {i : Nat} {o : Oper} {c : COper} {K : Act → World → Prop} {Q : Exit → Act → World → Prop} (hp : Pair P ow nt all o c) (hi : all[i]? = some o) (hf : FR Bo ρ I w nt a s) (hs : SR ρ I h w)
    (ev : evStep call c s h = some (s', h')) (hco : CallOk P call) (hK : ∀ a' w' ρ' I', St ρ I h w ρ' I' h' w' → SR ρ' I' h' w' → FR Bo ρ' I' w' nt a' s' → K a' w') : wpOpIn (FW r) 0 P all Q i K a w := by
  unfold wpOpIn
  simp only [hi]
  rw [wanted_eq hp hf]
  obtain ⟨v, rfl, e⟩ := evStep_inv ev
  have hdl : ∀ t, c.dst = some t → t < nt := by rw [hp.dst]; exact hp.dlt
  rcases e with ⟨e1, e2⟩ | ⟨e1, rfl, rfl⟩
  · rw [if_pos e1]
    rcases hp.op with ⟨b, c0, hb, hcv⟩ | hb
    · refine wp_oper hb hf hs (cv_ev hcv (evOpB_inv e2).2) hco fun u w' ρ' I' st hs' hv => hK _ w' ρ' I' st hs' ?_
      rw [← hp.dst]
      exact (hf.step hs st).put hdl hv
    · rw [hb] at e2; cases (evOpB_inv e2).2
  · rw [if_neg (by simp [e1])]
    refine ⟨fun _ _ => trivial, hK _ w ρ I .refl hs ?_⟩
    rw [← hp.dst]
    exact hf.put hdl VR.undef

theorem VR.step' {n0 : Nat} {w' : World} {ρ' : Nat → Option (Nat × Nat)} {I' : Nat → Prop} {h' : AH} {u : Value} {v : PV} (hv : VR ρ I w u v) (hs : SR ρ I h w) (st : St ρ I ⟨n0, h.lo, h.blk, h.ty⟩ w ρ' I' h' w') : VR ρ' I' w' u v :=
  hv.mono st.ext st.imm (fun b hb => st.keep b (hs.inI b hb) fun i o hl e => hs.apart i b o hl e hb) st.row
theorem BR.step' {n0 : Nat} {w' : World} {ρ' : Nat → Option (Nat × Nat)} {I' : Nat → Prop} {h' : AH} {B : Blk} {b o : Nat} (hB : BR ρ I w b o B) (hs : SR ρ I h w) (st : St ρ I ⟨n0, h.lo, h.blk, h.ty⟩ w ρ' I' h' w') (e : w'.heap[b]? = w.heap[b]?) : BR ρ' I' w' b o B := by
  cases B with
  | cells cs =>
    obtain ⟨C, T, g1, g2, g3⟩ := hB
    exact ⟨C, T, e.trans g1, g2, fun j hj => (g3.1 j hj).step' hs st, g3.2⟩
  | map es =>
    obtain ⟨M, k, g1, g2, g3⟩ := hB
    exact ⟨M, k, e.trans g1, g2, fun j hj hj' => ⟨(g3 j hj hj').1.step' hs st, (g3 j hj hj').2.step' hs st⟩⟩
  | loop s L =>
    obtain ⟨r, x, g1, g2, g3, g4, g5⟩ := hB
    exact ⟨r, x, e.trans g1, g2, g3, g4, fun t => (g5 t).step' hs st⟩

/-- A new block under a number that was set aside. -/
theorem SR.newAt (hs : SR ρ I h w) {C : Array Value} {T : TypeId} {cs : List PV} {n0 j : Nat} (hn0 : n0 ≤ j) (hj : j < h.nx) (hb0 : h.blk j = none) (hρ : ρ j = none)
    (hl : cs.length ≤ C.size) (hv : ∀ j (hj : j < cs.length), VR ρ I w (C.getD j undef) cs[j]) (ho : ∀ x ∈ cs, x.one = true) :
    SR (upd ρ j (w.heap.size, 0)) I (h.set j (.cells cs)) (w.alloc (.cells C T)) ∧ St ρ I ⟨n0, h.lo, h.blk, h.ty⟩ w (upd ρ j (w.heap.size, 0)) I (h.set j (.cells cs)) (w.alloc (.cells C T)) := by
  have hsz : (w.alloc (.cells C T)).heap.size = w.heap.size + 1 := World.size_alloc _ _
  have hold : ∀ b, b < w.heap.size → (w.alloc (.cells C T)).heap[b]? = w.heap[b]? := fun b hb => RowKit.Below.heap_alloc _ _ _ hb
  generalize hw' : w.alloc (.cells C T) = w' at *
  have hos : w'.os = w.os := by rw [← hw']; rfl
  have htape : w'.tape = w.tape := by rw [← hw']; rfl
  have hout : w'.output = w.output := by rw [← hw']; rfl
  have hnew : w'.heap[w.heap.size]? = some (.cells C T (0, 0)) := by rw [← hw']; exact heap_alloc_new _ _
  have hb : ∀ i x, ρ i = some x → x.1 < w.heap.size ∨ h.blk i = none := by
    intro i x e
    cases e' : h.blk i with
    | none => exact .inr rfl
    | some B' =>
      obtain ⟨b, o, g, hB'⟩ := hs.live i B' e'
      rw [e] at g
      cases g
      left
      have : w.heap[b]? ≠ none := by
        cases B' <;> (obtain ⟨_, _, g, _⟩ := hB'; rw [g]; simp)
      rcases Nat.lt_or_ge b w.heap.size with q | q
      · exact q
      · exact absurd (Array.getElem?_eq_none q) this
  have st : St ρ I ⟨n0, h.lo, h.blk, h.ty⟩ w (upd ρ j (w.heap.size, 0)) I (h.set j (.cells cs)) w' :=
    { ext := fun i x e => by
        have : i ≠ j := fun e' => by rw [e', hρ] at e; cases e
        simp [upd, this, e]
      imm := fun _ e => e, immNew := fun _ e => .inl e, os := hos, tape := htape, output := hout, size := by omega
      keep := fun b hb _ => hold b hb
      row := fun b C T f e => by
        have : b < w.heap.size := by
          rcases Nat.lt_or_ge b w.heap.size with q | q
          · exact q
          · rw [Array.getElem?_eq_none q] at e; cases e
        exact ⟨C, f, (hold b this).trans e, rfl⟩
      oth := Oth.old hold
      own := fun i b o hl e => by
        by_cases hi : i = j
        · simp [upd, hi] at e; left; omega
        · simp only [upd, hi, if_false] at e
          rw [AH.set_blk, if_neg hi] at hl
          exact .inr ⟨i, o, hl, e⟩
      nxle := by show n0 ≤ h.nx; omega
      low := fun i x e => by
        by_cases hi : i = j
        · right; show n0 ≤ i; omega
        · simp only [upd, hi, if_false] at e; exact .inl e }
  refine ⟨{ live := fun i B' e => ?_, inj := fun i k b o o' hi hk ei ej => ?_, apart := fun i b o hi ei => ?_, nx := fun i x e => ?_, inI := fun b e => by have := hs.inI b e; omega, typ := hs.typ.mono st.ext st.row }, st⟩
  · by_cases hi : i = j
    · subst hi
      rw [AH.set_blk, if_pos rfl] at e
      cases e
      exact ⟨w.heap.size, 0, by simp [upd], C, T, hnew, by omega, fun k hk => by rw [Nat.zero_add]; exact (hv k hk).step' hs st, ho⟩
    · rw [AH.set_blk, if_neg hi] at e
      obtain ⟨b, o, g, hB'⟩ := hs.live i B' e
      refine ⟨b, o, by simp [upd, hi, g], hB'.step' hs st (hold b ?_)⟩
      rcases hb i _ g with q | q
      · exact q
      · rw [q] at e; cases e
  · by_cases hi' : i = j <;> by_cases hj' : k = j
    · omega
    · rw [AH.set_blk, if_neg hj'] at hk
      simp [upd, hi'] at ei
      simp [upd, hj'] at ej
      rcases hb k _ ej with q | q
      · simp at q; omega
      · exact absurd q hk
    · rw [AH.set_blk, if_neg hi'] at hi
      simp [upd, hj'] at ej
      simp [upd, hi'] at ei
      rcases hb i _ ei with q | q
      · simp at q; omega
      · exact absurd q hi
    · rw [AH.set_blk, if_neg hi'] at hi
      rw [AH.set_blk, if_neg hj'] at hk
      simp [upd, hi'] at ei
      simp [upd, hj'] at ej
      exact hs.inj i k b o o' hi hk ei ej
  · by_cases hi' : i = j
    · simp [upd, hi'] at ei
      intro hI
      have := hs.inI b hI
      omega
    · rw [AH.set_blk, if_neg hi'] at hi
      simp [upd, hi'] at ei
      exact hs.apart i b o hi ei
  · by_cases hi' : i = j
    · show i < h.nx; omega
    · simp [upd, hi'] at e
      exact hs.nx i x e

theorem mksliceR_ok {t e : TypeId} {z by_ : Nat} {zs : List PV} {l c : Int} {n0 j : Nat} (hs : SR ρ I h w) (hn0 : n0 ≤ j) (hj : j < h.nx) (hb0 : h.blk j = none) (hρ : ρ j = none)
    (hu : P.underlying t = some (.slice e)) (hz : szT P e = some z) (hb : bytesT P e = some by_) (hzc : zeroCells P e = some zs) (hl : zs.length = z ∧ 0 < z) (h0 : 0 ≤ l ∧ l ≤ c ∧ roomOk c.toNat (by_ + 1) = true) :
    ∃ r w' ρ', (Instr.makeSlice t (.int .i64 l) (.int .i64 c)).run P w = .ok r w' ∧ St ρ I ⟨n0, h.lo, h.blk, h.ty⟩ w ρ' I (h.set j (.cells (List.replicate l.toNat zs).flatten)) w' ∧ SR ρ' I (h.set j (.cells (List.replicate l.toNat zs).flatten)) w' ∧ VR ρ' I w' r (.rf z j 0 l.toNat) ∧
      ∀ i, i ≠ j → ρ' i = ρ i := by
  obtain ⟨zv, z1, z2⟩ := zeroCells_inv hzc
  obtain ⟨i, hi, hi2⟩ := szT_info hz
  have hi3 : i.bytes = by_ := by simp [bytesT, hi] at hb; exact hb
  have hi4 : i.zero = some zv := by simp [zeroT, hi] at z1; exact z1
  obtain ⟨h1, h2, h3⟩ := h0
  obtain ⟨r1, r2⟩ := roomOk_le h3
  have hbytes : (i.bytes : Int) * c ≤ 281474976710656 := by
    rw [hi3]
    have : (by_ : Int) * c = ((c.toNat * by_ : Nat) : Int) := by
      rw [Int.natCast_mul, Int.toNat_of_nonneg (by omega), Int.mul_comm]
    rw [this]
    omega
  have hrun := run_make (P := P) w t e i zv hu hi hi4 .i64 .i64 l c h1 h2 hbytes (by omega)
  have hzv : VRA ρ I w zv.cells zs := zero_vra z2
  have hzlen : zs.length = z := hl.1
  have hr := reps_vra (n := c.toNat) hzv (by omega)
  have hpos : 0 < zs.length := by omega
  have hget : ∀ j (hj : j < ((List.replicate l.toNat zs).flatten).length), VR ρ I w ((madeCells zv.cells (c.toNat * i.size)).getD j undef) ((List.replicate l.toNat zs).flatten)[j] := by
    intro j hj
    have hj1 : j < l.toNat * zs.length := by simpa using hj
    have hle : l.toNat * zs.length ≤ c.toNat * zs.length := Nat.mul_le_mul_right _ (by omega)
    have hj2 : j < ((List.replicate c.toNat zs).flatten).length := by simp; omega
    have e1 := flatten_get zs hpos l.toNat j
    have e2 := flatten_get zs hpos c.toNat j
    rw [if_pos hj1, List.getElem?_eq_getElem hj] at e1
    rw [if_pos (by omega), List.getElem?_eq_getElem hj2] at e2
    have e3 : ((List.replicate l.toNat zs).flatten)[j] = ((List.replicate c.toNat zs).flatten)[j] := Option.some.inj (e1.trans e2.symm)
    rw [e3]
    have := hr.2.1 j hj2
    rw [hzlen] at this
    rw [hi2]
    exact this
  obtain ⟨g1, g2⟩ := hs.newAt (T := e) (C := madeCells zv.cells (c.toNat * i.size)) (cs := (List.replicate l.toNat zs).flatten) hn0 hj hb0 hρ (by
    rw [size_madeCells, hi2]
    simp only [List.length_flatten, List.map_replicate, List.sum_replicate_nat, hzlen]
    exact Nat.mul_le_mul_right _ (by omega)) hget (fun x hx => by
      simp only [List.mem_flatten, List.mem_replicate] at hx
      obtain ⟨l', ⟨_, rfl⟩, hx⟩ := hx
      exact hzv.2.2 x hx)
  refine ⟨_, _, _, hrun, g2, g1, ?_, fun i hi => by simp [upd, hi]⟩
  have : VR (upd ρ j (w.heap.size, 0)) I (w.alloc (.cells (madeCells zv.cells (c.toNat * i.size)) e)) (.slice (some ⟨w.heap.size, 0 + 0, none⟩) l.toNat c.toNat) (.rf z j 0 l.toNat) :=
    .rf (by simp [upd]) (by omega) (heap_alloc_new w _) (by rw [size_madeCells, hi2]; omega)
  simpa using this

/-- An operation whose block was set aside. -/
structure PairR (P : Program) (ow : Nat → Nat) (nt : Nat) (all : Array Oper) (o : Oper) (c : COper) (k z b : Nat) (zs : List PV) (l l' : Opd) : Prop where
  op : c.op = .mksliceR k z b zs l l'
  pair : Pair P ow nt all o { c with op := .mkslice z b zs l l' }
  comp : ∃ b0, compOp P b0 o.op = some (.mkslice z b zs l l')

omit [LoopSpec] in
theorem compOp_mk {op : Op} {ow z b : Nat} {zs : List PV} {l l' : Opd} (hc : compOp P ow op = some (.mkslice z b zs l l')) : ∃ t l0 c0, op = .makeSlice t l0 c0 := by
  cases op <;> first
    | exact ⟨_, _, _, rfl⟩
    | (exfalso; simp only [compOp, compCall, reduceCtorEq] at hc; done)
    | (exfalso; simp only [compOp, compCall, Option.map_eq_some_iff, reduceCtorEq, and_false, exists_false] at hc; done)
    | (exfalso
       simp only [compOp, compCall] at hc
       (repeat' split at hc) <;> first
         | (cases hc; done)
         | (simp [Option.map_eq_some_iff] at hc; done)
         | (simp only [Option.map_eq_some_iff, Option.bind_eq_some_iff, Function.comp_def, reduceCtorEq, and_false, exists_false] at hc; done)
         | contradiction
         | (simp [Option.bind_eq_some_iff] at hc; done)
         | (simp only [compBin] at hc
            (repeat' split at hc) <;> first
              | (cases hc; done)
              | (simp [Option.map_eq_some_iff] at hc; done)
              | (simp [Option.bind_eq_some_iff] at hc; done)
              | contradiction))

omit [LoopSpec] in
theorem compOp_noR {op : Op} {ow k z b : Nat} {zs : List PV} {l l' : Opd} (hc : compOp P ow op = some (.mksliceR k z b zs l l')) : False := by
  cases op <;> first
    | (simp only [compOp, compCall, reduceCtorEq] at hc; done)
    | (simp only [compOp, compCall, Option.map_eq_some_iff, reduceCtorEq, and_false, exists_false] at hc; done)
    | (simp only [compOp, compCall] at hc
       (repeat' split at hc) <;> first
         | (cases hc; done)
         | (simp [Option.map_eq_some_iff] at hc; done)
         | (simp only [Option.map_eq_some_iff, Option.bind_eq_some_iff, Function.comp_def, reduceCtorEq, and_false, exists_false] at hc; done)
         | contradiction
         | (simp [Option.bind_eq_some_iff] at hc; done)
         | (simp only [compBin] at hc
            (repeat' split at hc) <;> first
              | (cases hc; done)
              | (simp [Option.map_eq_some_iff] at hc; done)
              | (simp [Option.bind_eq_some_iff] at hc; done)
              | contradiction))

/-- One such step of a region. -/
theorem wp_stepR {r : Option Nat} {ow : Nat → Nat} {all : Array Oper} {i : Nat} {o : Oper} {c : COper} {K : Act → World → Prop} {Q : Exit → Act → World → Prop} {n0 k z b : Nat} {zs : List PV} {l l' : Opd} (hp : PairR P ow nt all o c k z b zs l l') (hi : all[i]? = some o) (hf : FR Bo ρ I w nt a s) (hs : SR ρ I h w)
    (hn0 : n0 ≤ h.nx - 1 - k) (hρ : ρ (h.nx - 1 - k) = none)
    (ev : evStep call c s h = some (s', h')) (hK : ∀ a' w' ρ', h'.nx = h.nx → St ρ I ⟨n0, h.lo, h.blk, h.ty⟩ w ρ' I h' w' → SR ρ' I h' w' → FR Bo ρ' I w' nt a' s' → (∀ j, j ≠ h.nx - 1 - k → ρ' j = ρ j) → K a' w') : wpOpIn (FW r) 0 P all Q i K a w := by
  unfold wpOpIn
  simp only [hi]
  have hwn := wanted_eq hp.pair hf
  simp only at hwn
  rw [hwn]
  obtain ⟨v, rfl, e⟩ := evStep_inv ev
  have hdst : c.dst = o.dst := hp.pair.dst
  have hdl : ∀ t, c.dst = some t → t < nt := by rw [hdst]; exact hp.pair.dlt
  have hst0 : n0 ≤ h.nx := by omega
  rcases e with ⟨e1, e2⟩ | ⟨e1, rfl, rfl⟩
  · rw [if_pos e1]
    have e3 := (evOpB_inv e2).2
    rw [hp.op] at e3
    obtain ⟨L, C, g1, g2, ⟨g3, g4, g5, g6⟩, rfl, rfl⟩ := mkR_inv e3
    obtain ⟨b0, hcomp⟩ := hp.comp
    have hb0 : h.blk (h.nx - 1 - k) = none := by simpa using g6
    obtain ⟨t, l0, c0, ho⟩ := compOp_mk hcomp
    · rw [ho] at hcomp
      simp only [compOp] at hcomp
      split at hcomp
      · rename_i e hu
        split at hcomp
        · rename_i z' b' zs' X Y hz hb hzc hX hY
          split at hcomp
          · rename_i hcond
            by_cases how : b0 = 1
            · rw [if_pos how] at hcomp; cases hcomp
            rw [if_neg how] at hcomp
            cases hcomp
            have hl := opd_vr hX hf
            have hc' := opd_vr hY hf
            rw [g1] at hl
            rw [g2] at hc'
            obtain ⟨r, w', ρ', r1, r2, r3, r4, r5⟩ := mksliceR_ok (P := P) hs hn0 (by omega) hb0 hρ hu hz hb hzc hcond g3
            refine oper_in (fun d hd => by rw [ho] at hd; cases hd) ?_
            simp only [execOp, ho]
            rw [hl.int_inv, hc'.int_inv]
            have hrun : (execOp a.eval o).run P w = .ok (.value r) w' := by
              simp only [execOp, ho]
              rw [hl.int_inv, hc'.int_inv]
              simp [r1]
            simp only [execOp, ho] at hrun
            rw [hl.int_inv, hc'.int_inv] at hrun
            rw [hrun]
            refine hK _ w' ρ' rfl r2 r3 ?_ r5
            rw [← hdst]
            exact (⟨hf.size, hf.defers.step r2.size r2.immNew r2.oth, fun t => (hf.slot t).step' hs r2⟩ : FR Bo ρ' I w' nt a s).put hdl r4
          · cases hcomp
        · cases hcomp
      · cases hcomp
  · rw [if_neg (by simp [e1])]
    refine ⟨fun _ _ => trivial, hK _ w ρ rfl ⟨fun _ _ e => e, fun _ e => e, fun _ e => .inl e, rfl, rfl, rfl, Nat.le_refl _, fun _ _ _ => rfl, fun _ C _ f e => ⟨C, f, e, rfl⟩, fun _ => .refl, fun i b o hl e => .inr ⟨i, o, hl, e⟩, hst0, fun i x e => .inl e⟩ hs ?_ fun _ _ => rfl⟩
    rw [← hdst]
    exact hf.put hdl VR.undef

theorem wpOps_seq {r : Option Nat} {ow : Nat → Nat} {all : Array Oper} {cops : List COper} {Q : Exit → Act → World → Prop} (hcl : cops.length = all.size) (hpair : ∀ (i : Nat) o c, all[i]? = some o → cops[i]? = some c → Pair P ow nt all o c) (hco : CallOk P call) :
    ∀ (l : List Nat) (a : Act) (w : World) (ρ : Nat → Option (Nat × Nat)) (I : Nat → Prop) (s : Fr) (h : AH), FR Bo ρ I w nt a s → SR ρ I h w → evSeq call cops l s h = some (s', h') →
      (∀ a' w' ρ' I', St ρ I h w ρ' I' h' w' → SR ρ' I' h' w' → FR Bo ρ' I' w' nt a' s' → Q .normal a' w') → wpOpsIn (FW r) 0 P all Q l a w
  | [], a, w, ρ, I, s, h, hf, hs, e, hQ => by cases e; exact hQ a w ρ I .refl hs hf
  | i :: l, a, w, ρ, I, s, h, hf, hs, e, hQ => by
    rw [wpOpsIn_cons]
    simp only [evSeq] at e
    cases hc : cops[i]? with
    | none => simp [hc] at e
    | some c =>
      simp only [hc] at e
      cases hst : evStep call c s h with
      | none => simp [hst] at e
      | some p =>
        obtain ⟨s1, h1⟩ := p
        simp only [hst] at e
        have hlt : i < all.size := by
          rw [← hcl]
          rcases Nat.lt_or_ge i cops.length with q | q
          · exact q
          · rw [List.getElem?_eq_none q] at hc; cases hc
        have hi : all[i]? = some all[i] := Array.getElem?_eq_getElem hlt
        refine wp_step (hpair i _ _ hi hc) hi hf hs hst hco fun a' w' ρ' I' st hs' hf' => ?_
        exact wpOps_seq hcl hpair hco l a' w' ρ' I' s1 h1 hf' hs' e fun a2 w2 ρ2 I2 st2 hs2 hf2 => hQ a2 w2 ρ2 I2 (st.trans st2) hs2 hf2
end
end Go.Ev

/- Regions that draw their order. -/
set_option linter.unusedVariables false
set_option linter.unusedSimpArgs false
namespace Go.Ev
variable [LoopSpec]
section
variable {P : Program} {call : Nat → List PV → AH → Option (PV × AH)} {pu : Nat → Bool} {ρ : Nat → Option (Nat × Nat)} {I : Nat → Prop} {h h' : AH} {w : World} {nt : Nat} {Bo : Nat × List Deferred × Bool} {a : Act} {s s' : Fr} {v : PV}

def isL (listed : Array Bool) (i : Nat) : Bool := listed.getD i false

omit [LoopSpec] in
theorem isL_set {listed : Array Bool} {i j : Nat} (hi : i < listed.size) : isL (listed.setIfInBounds i true) j = (isL listed j || j == i) := by
  unfold isL
  simp only [Array.getD_eq_getD_getElem?]
  by_cases q : i = j
  · subst q; simp [hi]
  · rw [Array.getElem?_setIfInBounds_ne q]
    have : (j == i) = false := by simp; exact fun e => q e.symm
    rw [this, Bool.or_false]

/-- What is not listed yet, in the order of the text. -/
def remOf (n : Nat) (listed : Array Bool) : List Nat := (List.range n).filter fun i => !isL listed i

omit [LoopSpec] in
theorem ready_mem {all : Array Oper} {listed : Array Bool} (hsz : listed.size = all.size) {i : Nat} :
    i ∈ Region.ready .any all listed ↔ i < all.size ∧ isL listed i = false ∧ ∀ o, all[i]? = some o → ∀ e ∈ edges o, isL listed e = true := by
  unfold Region.ready
  simp only [List.mem_filter, List.mem_range, Bool.and_eq_true, Bool.not_eq_true']
  constructor
  · rintro ⟨h1, h2, h3⟩
    have hi : all[i]? = some all[i] := Array.getElem?_eq_getElem h1
    refine ⟨h1, ?_, fun o ho e he => ?_⟩
    · unfold isL
      have : i < listed.size := by omega
      simp [Array.getD, this] at h2 ⊢
      exact h2
    · rw [ho] at h3
      simp only [Option.map_some, Option.getD_some, Array.all_eq_true_iff_forall_mem] at h3
      simp only [edges, List.mem_map, List.mem_filter] at he
      obtain ⟨x, ⟨hx, hb⟩, rfl⟩ := he
      have := h3 x (by simpa using hx)
      simpa [hb, isL] using this
  · rintro ⟨h1, h2, h3⟩
    have hi : all[i]? = some all[i] := Array.getElem?_eq_getElem h1
    refine ⟨h1, ?_, ?_⟩
    · unfold isL at h2
      have : i < listed.size := by omega
      simp [Array.getD, this] at h2 ⊢
      exact h2
    · rw [hi]
      simp only [Option.map_some, Option.getD_some, Array.all_eq_true_iff_forall_mem]
      intro x hx
      by_cases hb : Region.binds .any x = true
      · have := h3 _ hi x.on (by simp only [edges, List.mem_map, List.mem_filter]; exact ⟨x, ⟨by simpa using hx, hb⟩, rfl⟩)
        simp [isL] at this
        simp [this]
      · simp [hb]

omit [LoopSpec] in
theorem range_cut {n i : Nat} (hi : i < n) : List.range n = List.range i ++ i :: List.range' (i + 1) (n - i - 1) := by
  rw [List.range_eq_range', List.range_eq_range']
  have e : n = i + (n - i) := by omega
  have e2 : n - i = (n - i - 1) + 1 := by omega
  conv => lhs; rw [e]
  rw [← List.range'_append_1, Nat.zero_add]
  conv => lhs; rw [e2]
  rw [List.range'_succ]

omit [LoopSpec] in
/-- A region that draws its order, by what holds at each step ('Iv'). -/
theorem wpAny_gen {r : Option Nat} {all : Array Oper} {cops : List COper} {Q : Exit → Act → World → Prop} (Iv : Array Bool → Act → World → Fr → AH → Prop) (hcl : cops.length = all.size) (hp : PureOk pu call) (hwf : WfOk call)
    (hwfh : ∀ listed a w s h, Iv listed a w s h → WFH h)
    (hstep : ∀ (listed : Array Bool) i o c a w s h s1 h1 (K : Act → World → Prop), listed.size = all.size → i < all.size → isL listed i = false → all[i]? = some o → cops[i]? = some c → Iv listed a w s h → ∀ c', Weak c c' → evStep call c' s h = some (s1, h1) → (∀ e ∈ edges o, isL listed e = true) → (∀ a' w', Iv (listed.setIfInBounds i true) a' w' s1 h1 → K a' w') → wpOpIn (FW r) 0 P all Q i K a w)
    (hd : drawOk pu all.toList cops = true) :
    ∀ (fuel : Nat) (listed : Array Bool) (a : Act) (w : World) (s : Fr) (h : AH), listed.size = all.size → (remOf all.size listed).length ≤ fuel →
      (∀ i o, isL listed i = true → all[i]? = some o → ∀ e ∈ edges o, isL listed e = true) → Iv listed a w s h → evSeq call cops (remOf all.size listed) s h = some (s', h') →
      (∀ listed a' w', listed.size = all.size → remOf all.size listed = [] → Iv listed a' w' s' h' → Q .normal a' w') → wpAnyIn (FW r) 0 P .any all Q fuel listed a w := by
  have hB := befs_spec (all.toList.map edges) []
  simp only [List.length_nil, Nat.zero_le, Nat.zero_add, forall_const, Nat.sub_zero, true_and, Nat.not_lt_zero, false_implies, implies_true, List.length_map, Array.length_toList] at hB
  have hdr : ∀ i, i < all.size → (∀ e ∈ (all.toList.map edges).getD i [], e < i) ∧ ∀ j, j < i → ((befs [] (all.toList.map edges)).getD i []).contains j = true ∨ ∃ x y, cops[j]? = some x ∧ cops[i]? = some y ∧ callPair pu cops j i x y = true := by
    intro i hi
    unfold drawOk at hd
    simp only [List.all_eq_true, List.mem_range, Bool.and_eq_true, decide_eq_true_eq, Bool.or_eq_true] at hd
    obtain ⟨d1, d2⟩ := hd i (by omega)
    refine ⟨d1, fun j hj => ?_⟩
    rcases d2 j hj with q | q
    · exact .inl q
    · right
      split at q
      · rename_i x y hx hy; exact ⟨x, y, hx, hy, q⟩
      · cases q
  have hedge : ∀ i o, all[i]? = some o → (all.toList.map edges).getD i [] = edges o := by
    intro i o ho
    have : all.toList[i]? = some o := by simpa using ho
    simp [List.getD_eq_getElem?_getD, this]
  intro fuel
  have emptyReady : ∀ (listed : Array Bool), listed.size = all.size → Region.ready .any all listed = [] → remOf all.size listed = [] := by
    intro listed hsz hr
    rcases hrem : remOf all.size listed with _ | ⟨i, l⟩
    · rfl
    · exfalso
      have hmem : i ∈ remOf all.size listed := by rw [hrem]; simp
      simp only [remOf, List.mem_filter, List.mem_range, Bool.not_eq_true'] at hmem
      have hmin : ∀ j, j < i → isL listed j = true := by
        intro j hj
        cases hq : isL listed j with
        | true => rfl
        | false =>
          exfalso
          have hjm : j ∈ remOf all.size listed := by simp [remOf, hq]; omega
          have hpw : (remOf all.size listed).Pairwise (· < ·) := (List.pairwise_lt_range).filter _
          rw [hrem] at hjm hpw
          rw [List.pairwise_cons] at hpw
          rcases List.mem_cons.1 hjm with q | q
          · omega
          · have := hpw.1 j q; omega
      have : i ∈ Region.ready .any all listed := (ready_mem hsz).2 ⟨hmem.1, hmem.2, fun o ho e he => hmin e ((hdr i hmem.1).1 e (by rw [hedge i o ho]; exact he))⟩
      rw [hr] at this
      cases this
  induction fuel with
  | zero =>
    intro listed a w s h hsz hlen hcl' hiv e hQ
    have hrem : remOf all.size listed = [] := List.eq_nil_of_length_eq_zero (by omega)
    refine ⟨?_, ?_⟩
    · cases hr : Region.ready .any all listed with
      | nil => rfl
      | cons i l =>
        have hi : i ∈ Region.ready .any all listed := by rw [hr]; simp
        obtain ⟨h1, h2, _⟩ := (ready_mem hsz).1 hi
        have : i ∈ remOf all.size listed := by simp [remOf, h1, h2]
        rw [hrem] at this
        cases this
    · rw [hrem] at e
      cases e
      exact hQ _ a w hsz hrem hiv
  | succ fuel ih =>
    intro listed a w s h hsz hlen hcl' hiv e hQ
    refine ⟨fun hr => ?_, fun i hi => ?_⟩
    · rw [emptyReady listed hsz hr] at e
      cases e
      exact hQ _ a w hsz (emptyReady listed hsz hr) hiv
    · obtain ⟨h1, h2, h3⟩ := (ready_mem hsz).1 hi
      have hio : all[i]? = some all[i] := Array.getElem?_eq_getElem h1
      have hic : cops[i]? = some (cops[i]'(by omega)) := List.getElem?_eq_getElem (by omega)
      generalize hoi : all[i] = o at hio
      generalize hci : cops[i]'(by omega) = c at hic
      -- what i waits for is listed
      have hbl : ∀ k, k < all.size → (∀ e ∈ (all.toList.map edges).getD k [], isL listed e = true) → ∀ j ∈ (befs [] (all.toList.map edges)).getD k [], isL listed j = true := by
        intro k
        induction k using Nat.strongRecOn with
        | _ k ihk =>
          intro hk he j hj
          rcases hB k hk j hj with q | ⟨e, q1, q2, q3⟩
          · exact he j q
          · have hel := he e q1
            have hek : e < all.size := by omega
            have heo : all[e]? = some all[e] := Array.getElem?_eq_getElem hek
            exact ihk e q2 hek (fun x hx => hcl' e _ hel heo x (by rw [hedge e _ heo] at hx; exact hx)) j q3
      have hsplit : remOf all.size listed = ((List.range i).filter fun j => !isL listed j) ++ i :: ((List.range' (i + 1) (all.size - i - 1)).filter fun j => !isL listed j) := by
        unfold remOf
        rw [range_cut h1, List.filter_append, List.filter_cons]
        simp [h2]
      have hsplit' : remOf all.size (listed.setIfInBounds i true) = ((List.range i).filter fun j => !isL listed j) ++ ((List.range' (i + 1) (all.size - i - 1)).filter fun j => !isL listed j) := by
        unfold remOf
        rw [range_cut h1, List.filter_append, List.filter_cons]
        have hset : ∀ j, isL (listed.setIfInBounds i true) j = (isL listed j || j == i) := fun j => isL_set (by omega)
        rw [if_neg (by simp [hset])]
        congr 1
        · apply List.filter_congr
          intro j hj
          have : j < i := by simpa using hj
          rw [hset]
          simp [show ¬ j = i by omega]
        · apply List.filter_congr
          intro j hj
          have : i + 1 ≤ j := (List.mem_range'_1.1 hj).1
          rw [hset]
          simp [show ¬ j = i by omega]
      rw [hsplit] at e
      obtain ⟨c', s1, hh1, hweak, hst, hmv⟩ := move_any (i := i) (oi := c) hp hwf hic _ _ s h (s', h') (hwfh _ _ _ _ _ hiv) (List.pairwise_lt_range.filter _) (fun j hj => by simp only [List.mem_filter, List.mem_range] at hj; exact hj.1) (by
        intro j hj
        simp only [List.mem_filter, List.mem_range, Bool.not_eq_true'] at hj
        rcases (hdr i h1).2 j hj.1 with q | ⟨x, y, hx, hy, q⟩
        · exfalso
          have := hbl i h1 (fun e he => h3 o hio e (by rw [hedge i o hio] at he; exact he)) j (by simpa using q)
          rw [hj.2] at this
          cases this
        · rw [hic] at hy
          cases hy
          exact ⟨x, hx, q⟩) e
      refine hstep listed i o c a w s h s1 hh1 _ hsz h1 h2 hio hic hiv c' hweak hst (h3 o hio) fun a' w' hiv' => ?_
      refine ih (listed.setIfInBounds i true) a' w' s1 hh1 (by simpa using hsz) ?_ ?_ hiv' (by rw [hsplit']; exact hmv) hQ
      · rw [hsplit']
        rw [hsplit] at hlen
        simp only [List.length_append, List.length_cons] at hlen ⊢
        omega
      · intro k o' hk ho' ee he
        rw [isL_set (by omega)] at hk ⊢
        simp only [Bool.or_eq_true, beq_iff_eq] at hk ⊢
        rcases hk with hk | rfl
        · exact .inl (hcl' k o' hk ho' ee he)
        · exact .inl (h3 o' ho' ee he)

theorem SR.wfh (hs : SR ρ I h w) : WFH h := by
  intro k hk
  cases hb : h.blk k with
  | none => rfl
  | some B => have := hs.blkNx (i := k) (by rw [hb]; simp); omega

theorem wpAny_seq {r : Option Nat} {ow : Nat → Nat} {all : Array Oper} {cops : List COper} {Q : Exit → Act → World → Prop} (hcl : cops.length = all.size) (hpair : ∀ (i : Nat) o c, all[i]? = some o → cops[i]? = some c → Pair P ow nt all o c) (hco : CallOk P call) (hp : PureOk pu call) (hwf : WfOk call)
    (hd : drawOk pu all.toList cops = true) (fuel : Nat) (listed : Array Bool) (a : Act) (w : World) (ρ : Nat → Option (Nat × Nat)) (I : Nat → Prop) (s : Fr) (h : AH) (hsz : listed.size = all.size) (hlen : (remOf all.size listed).length ≤ fuel)
    (hc : ∀ i o, isL listed i = true → all[i]? = some o → ∀ e ∈ edges o, isL listed e = true) (hf : FR Bo ρ I w nt a s) (hs : SR ρ I h w) (e : evSeq call cops (remOf all.size listed) s h = some (s', h'))
    (hQ : ∀ a' w' ρ' I', St ρ I h w ρ' I' h' w' → SR ρ' I' h' w' → FR Bo ρ' I' w' nt a' s' → Q .normal a' w') : wpAnyIn (FW r) 0 P .any all Q fuel listed a w :=
  wpAny_gen (fun _ a' w' s1 h1 => ∃ ρ' I', St ρ I h w ρ' I' h1 w' ∧ SR ρ' I' h1 w' ∧ FR Bo ρ' I' w' nt a' s1) hcl hp hwf (fun _ _ _ _ _ ⟨_, _, _, hs, _⟩ => hs.wfh)
    (fun listed i o c a w s h s1 h1 K _ _ _ hi hic ⟨ρ1, I1, st, hs, hf⟩ c' hwk hst _ hK => wp_step ((hpair i o c hi hic).weak hwk) hi hf hs hst hco fun a' w' ρ' I' st' hs' hf' => hK a' w' ⟨ρ', I', st.trans st', hs', hf'⟩)
    hd fuel listed a w s h hsz hlen hc ⟨ρ, I, .refl, hs, hf⟩ e (fun _ a' w' _ _ ⟨ρ', I', st, hs', hf'⟩ => hQ a' w' ρ' I' st hs' hf')

/-- A region that draws its order and makes slices whose blocks were set aside. -/
theorem wpAny_res {r : Option Nat} {ow : Nat → Nat} {all : Array Oper} {cops : List COper} {Q : Exit → Act → World → Prop} {m n0 : Nat} (hcl : cops.length = all.size)
    (hpair : ∀ (i : Nat) o c, all[i]? = some o → cops[i]? = some c → (resK c.op = none ∧ Pair P ow nt all o c ∧ (cls pu c.op = 0 ∨ cls pu c.op = 1)) ∨ ∃ k z b zs l l', k < m ∧ PairR P ow nt all o c k z b zs l l')
    (hnd : ∀ (i j : Nat) (ci cj : COper) (k : Nat), cops[i]? = some ci → cops[j]? = some cj → resK ci.op = some k → resK cj.op = some k → i = j)
    (hco : CallOk P call) (hp : PureOk pu call) (hwf : WfOk call) (hd : drawOk pu all.toList cops = true) (fuel : Nat) (listed : Array Bool) (a : Act) (w : World) (ρ : Nat → Option (Nat × Nat)) (I : Nat → Prop) (s : Fr) (h : AH) (hsz : listed.size = all.size) (hlen : (remOf all.size listed).length ≤ fuel)
    (hc : ∀ i o, isL listed i = true → all[i]? = some o → ∀ e ∈ edges o, isL listed e = true) (hf : FR Bo ρ I w nt a s) (hs0 : SR ρ I h w) (hn : h.nx = n0) (e : evSeq call cops (remOf all.size listed) s ⟨n0 + m, h.lo, h.blk, h.ty⟩ = some (s', h'))
    (hQ : ∀ a' w' ρ' I', St ρ I h w ρ' I' h' w' → SR ρ' I' h' w' → FR Bo ρ' I' w' nt a' s' → Q .normal a' w') : wpAnyIn (FW r) 0 P .any all Q fuel listed a w := by
  have stw : ∀ {ρ' : Nat → Option (Nat × Nat)} {I' : Nat → Prop} {h1 : AH} {w' : World}, St ρ I h w ρ' I' h1 w' → St ρ I h w ρ' I' ⟨n0, h1.lo, h1.blk, h1.ty⟩ w' := fun st =>
    ⟨st.ext, st.imm, st.immNew, st.os, st.tape, st.output, st.size, st.keep, st.row, st.oth, st.own, by show h.nx ≤ n0; omega, st.low⟩
  refine wpAny_gen (fun listed a' w' s1 h1 => h1.nx = n0 + m ∧ (∀ i c k, isL listed i = false → cops[i]? = some c → resK c.op = some k → ∃ ρ', True) ∧ ∃ ρ' I', St ρ I h w ρ' I' h1 w' ∧ SR ρ' I' h1 w' ∧ FR Bo ρ' I' w' nt a' s1 ∧ ∀ i c k, isL listed i = false → cops[i]? = some c → resK c.op = some k → ρ' (n0 + m - 1 - k) = none) hcl hp hwf (fun _ _ _ _ _ ⟨_, _, _, _, _, hs, _⟩ => hs.wfh)
    ?_ hd fuel listed a w s ⟨n0 + m, h.lo, h.blk, h.ty⟩ hsz hlen hc ⟨rfl, fun _ _ _ _ _ _ => ⟨ρ, trivial⟩, ρ, I, ?_, ?_, hf, ?_⟩ e (fun _ a' w' _ _ ⟨_, _, ρ', I', st, hs', hf', _⟩ => hQ a' w' ρ' I' st hs' hf')
  · rintro listed i o c a w1 s h1 s2 h2 K hsz' hia hil hi hic ⟨hnx, _, ρ1, I1, st, hs, hf, hfree⟩ c' hwk hst _ hK
    have hiL : i < listed.size := by omega
    rcases hpair i o c hi hic with ⟨hr, hpr, hcls⟩ | ⟨k, z, b, zs, l, l', hkm, hpr⟩
    · obtain rfl : c' = c := hwk.eq_of (by
        cases hq : c.op <;> rw [hq] at hcls <;> first | rfl | (rcases hcls with g | g <;> cases g))
      have hh : h2 = h1 := by
        obtain ⟨v, _, q⟩ := evStep_inv hst
        obtain ⟨q0, q1, _⟩ := step_heap hp hs.wfh q
        rcases hcls with hcls | hcls
        · exact (q0 hcls).1
        · exact (q1 hcls).1
      refine wp_step hpr hi hf hs hst hco fun a' w' ρ' I' st' hs' hf' => hK a' w' ⟨by rw [hh]; exact hnx, fun _ _ _ _ _ _ => ⟨ρ', trivial⟩, ρ', I', st.trans st', hs', hf', fun j cj k hj hcj hk => ?_⟩
      have hj' : isL listed j = false := by
        rw [isL_set hiL] at hj
        simp only [Bool.or_eq_false_iff] at hj
        exact hj.1
      have hkm : k < m := by
        have hja : j < all.size := by
          rcases Nat.lt_or_ge j cops.length with q | q
          · omega
          · rw [List.getElem?_eq_none q] at hcj; cases hcj
        rcases hpair j _ cj (Array.getElem?_eq_getElem hja) hcj with ⟨hr', _⟩ | ⟨k', z, b, zs, l, l', hkm', hpr'⟩
        · rw [hr'] at hk; cases hk
        · rw [hpr'.op] at hk; cases hk; exact hkm'
      cases hq : ρ' (n0 + m - 1 - k) with
      | none => rfl
      | some x =>
        rcases st'.low _ _ hq with g | g
        · rw [hfree j cj k hj' hcj hk] at g; cases g
        · omega
    · have hcc : c' = c := hwk.eq_of (by rw [hpr.op]; rfl)
      rw [hcc] at hst
      have hrk : resK c.op = some k := by rw [hpr.op]; rfl
      refine wp_stepR (n0 := n0) hpr hi hf hs (by omega) (by rw [hnx]; exact hfree i c k hil hic hrk) hst fun a' w' ρ' hnx' st' hs' hf' hsame => hK a' w' ⟨by omega, fun _ _ _ _ _ _ => ⟨ρ', trivial⟩, ρ', I1, (stw st).trans st', hs', hf', fun j cj k' hj hcj hk => ?_⟩
      rw [isL_set hiL] at hj
      simp only [Bool.or_eq_false_iff, beq_eq_false_iff_ne, ne_eq] at hj
      have hkm' : k' < m := by
        have hja : j < all.size := by
          rcases Nat.lt_or_ge j cops.length with q | q
          · omega
          · rw [List.getElem?_eq_none q] at hcj; cases hcj
        rcases hpair j _ cj (Array.getElem?_eq_getElem hja) hcj with ⟨hr', _⟩ | ⟨k'', z, b, zs, l, l', hkm', hpr'⟩
        · rw [hr'] at hk; cases hk
        · rw [hpr'.op] at hk; cases hk; exact hkm'
      have hne : k' ≠ k := fun q => hj.2 (hnd j i cj c k hcj hic (q ▸ hk) hrk)
      rw [hsame _ (by omega)]
      exact hfree j cj k' hj.1 hcj hk
  · exact ⟨fun _ _ e => e, fun _ e => e, fun _ e => .inl e, rfl, rfl, rfl, Nat.le_refl _, fun _ _ _ => rfl, fun _ C _ f e => ⟨C, f, e, rfl⟩, fun _ => .refl, fun i b o hl e => .inr ⟨i, o, hl, e⟩, by show h.nx ≤ n0 + m; omega, fun i x e => .inl e⟩
  · exact ⟨hs0.live, hs0.inj, hs0.apart, fun i x e => by have := hs0.nx i x e; show i < n0 + m; omega, hs0.inI, hs0.typ⟩
  · intro i c k _ hic hk
    have hkm : k < m := by
      have hja : i < all.size := by
        rcases Nat.lt_or_ge i cops.length with q | q
        · omega
        · rw [List.getElem?_eq_none q] at hic; cases hic
      rcases hpair i _ c (Array.getElem?_eq_getElem hja) hic with ⟨hr', _⟩ | ⟨k'', z, b, zs, l, l', hkm', hpr'⟩
      · rw [hr'] at hk; cases hk
      · rw [hpr'.op] at hk; cases hk; exact hkm'
    cases hq : ρ (n0 + m - 1 - k) with
    | none => rfl
    | some x => have := hs0.nx _ _ hq; omega

omit [LoopSpec] in
theorem sepOp_cv {pu : Nat → Bool} {c0 c : COp} {ts : List (Bool × Nat × Nat)} (h : cv c0 c) : cv c0 (sepOp pu ts c) := by
  unfold sepOp
  split
  · rcases h with rfl | ⟨_, _, _, _, _, q⟩ | ⟨_, _, _, _, _, _, q⟩ | ⟨_, _, _, _, q⟩ | ⟨_, _, _, _, q⟩
    · exact .inr (.inl ⟨_, _, _, _, rfl, rfl⟩)
    all_goals cases q
  · rcases h with rfl | ⟨_, _, _, _, _, q⟩ | ⟨_, _, _, _, _, _, q⟩ | ⟨_, _, _, _, q⟩ | ⟨_, _, _, _, q⟩
    · exact .inr (.inr (.inl ⟨_, _, _, _, _, rfl, rfl⟩))
    all_goals cases q
  · split
    · rcases h with rfl | ⟨_, _, _, _, _, q⟩ | ⟨_, _, _, _, _, _, q⟩ | ⟨_, _, _, _, q⟩ | ⟨_, _, _, _, q⟩
      · exact .inr (.inr (.inr (.inr ⟨_, _, _, rfl, rfl⟩)))
      all_goals cases q
    · exact h
  · exact h
omit [LoopSpec] in
theorem sepOp_bad {pu : Nat → Bool} {ts : List (Bool × Nat × Nat)} {c : COp} (h : c = .bad) : sepOp pu ts c = .bad := by rw [h]; rfl
omit [LoopSpec] in
theorem Pair.sep {ow : Nat → Nat} {all : Array Oper} {o : Oper} {c : COper} {pu : Nat → Bool} {ts : List (Bool × Nat × Nat)} (h : Pair P ow nt all o c) : Pair P ow nt all o { c with op := sepOp pu ts c.op } :=
  ⟨h.dst, h.op.imp (fun ⟨b, c0, h1, h2⟩ => ⟨b, c0, h1, sepOp_cv h2⟩) sepOp_bad, h.dlt, h.guard⟩
omit [LoopSpec] in
theorem loadiOp_cv {c0 c : COp} (h : cv c0 c) : cv c0 (loadiOp c) := by
  unfold loadiOp
  split
  · rcases h with rfl | ⟨_, _, _, _, _, q⟩ | ⟨_, _, _, _, _, _, q⟩ | ⟨_, _, _, _, q⟩ | ⟨_, _, _, _, q⟩
    · exact .inr (.inr (.inr (.inl ⟨_, _, _, rfl, rfl⟩)))
    all_goals cases q
  · exact h
omit [LoopSpec] in
theorem loadiOp_bad {c : COp} (h : c = .bad) : loadiOp c = .bad := by rw [h]; rfl
omit [LoopSpec] in
theorem Pair.loadi {ow : Nat → Nat} {all : Array Oper} {o : Oper} {c : COper} (h : Pair P ow nt all o c) : Pair P ow nt all o { c with op := loadiOp c.op } :=
  ⟨h.dst, h.op.imp (fun ⟨b, c0, h1, h2⟩ => ⟨b, c0, h1, loadiOp_cv h2⟩) loadiOp_bad, h.dlt, h.guard⟩
omit [LoopSpec] in
theorem sepFrom_get {pu : Nat → Bool} {B : List (List Nat)} {all : List COper} : ∀ (l : List COper) (n : Nat), (sepFrom pu B all n l).length = l.length ∧ ∀ (i : Nat) (c : COper), (sepFrom pu B all n l)[i]? = some c → ∃ (c0 : COper) (ts : List (Bool × Nat × Nat)), l[i]? = some c0 ∧ c = { c0 with op := sepOp pu ts c0.op }
  | [], n => ⟨rfl, fun i c h => by simp [sepFrom] at h⟩
  | o :: r, n => by
    obtain ⟨h1, h2⟩ := sepFrom_get (pu := pu) (B := B) (all := all) r (n + 1)
    refine ⟨by simp [sepFrom, h1], fun i c h => ?_⟩
    cases i with
    | zero => simp [sepFrom] at h; exact ⟨o, _, by simp, h.symm⟩
    | succ i =>
      simp only [sepFrom, List.getElem?_cons_succ] at h ⊢
      exact h2 i c h

omit [LoopSpec] in
theorem resCops_get : ∀ (l : List COper) (n : Nat), (resCops n l).length = l.length ∧ ∀ (i : Nat) (c : COper), (resCops n l)[i]? = some c → ∃ c0 : COper, l[i]? = some c0 ∧ (c = c0 ∨ (∃ g n a, c0.op = .load g n a ∧ c = { c0 with op := .loadi g n a }) ∨ ∃ k z b zs l l', c0.op = .mkslice z b zs l l' ∧ c = { c0 with op := .mksliceR k z b zs l l' })
  | [], n => ⟨rfl, fun i c h => by simp [resCops] at h⟩
  | o :: r, n => by
    unfold resCops
    split
    · rename_i z b zs l c hop
      obtain ⟨h1, h2⟩ := resCops_get r (n + 1)
      refine ⟨by simp [h1], fun i c h => ?_⟩
      cases i with
      | zero => simp at h; exact ⟨o, by simp, .inr (.inr ⟨_, _, _, _, _, _, hop, h.symm⟩)⟩
      | succ i => simp only [List.getElem?_cons_succ] at h ⊢; exact h2 i c h
    · rename_i g m a hop
      obtain ⟨h1, h2⟩ := resCops_get r n
      refine ⟨by simp [h1], fun i c h => ?_⟩
      cases i with
      | zero => simp at h; exact ⟨o, by simp, .inr (.inl ⟨_, _, _, hop, h.symm⟩)⟩
      | succ i => simp only [List.getElem?_cons_succ] at h ⊢; exact h2 i c h
    · obtain ⟨h1, h2⟩ := resCops_get r n
      refine ⟨by simp [h1], fun i c h => ?_⟩
      cases i with
      | zero => simp at h; exact ⟨o, by simp, .inl h.symm⟩
      | succ i => simp only [List.getElem?_cons_succ] at h ⊢; exact h2 i c h

omit [LoopSpec] in
theorem nodup_keys : ∀ {l : List COper}, (l.filterMap fun o => resK o.op).Nodup → ∀ (i j : Nat) (ci cj : COper) (k : Nat), l[i]? = some ci → l[j]? = some cj → resK ci.op = some k → resK cj.op = some k → i = j
  | [], _, i, j, ci, cj, k, h, _, _, _ => by simp at h
  | o :: r, hn, i, j, ci, cj, k, hi, hj, ki, kj => by
    have hmem : ∀ {n : Nat} {c : COper}, r[n]? = some c → resK c.op = some k → k ∈ r.filterMap fun o => resK o.op := fun h hk => List.mem_filterMap.2 ⟨_, List.mem_of_getElem? h, hk⟩
    have hr : (r.filterMap fun o => resK o.op).Nodup := by
      cases ho : resK o.op with
      | none => simpa [ho] using hn
      | some q => simp only [List.filterMap_cons, ho] at hn; exact (List.nodup_cons.1 hn).2
    cases i with
    | zero =>
      cases j with
      | zero => rfl
      | succ j =>
        simp at hi hj
        subst hi
        simp only [List.filterMap_cons, ki] at hn
        exact absurd (hmem hj kj) (List.nodup_cons.1 hn).1
    | succ i =>
      cases j with
      | zero =>
        simp at hi hj
        subst hj
        simp only [List.filterMap_cons, kj] at hn
        exact absurd (hmem hi ki) (List.nodup_cons.1 hn).1
      | succ j =>
        simp only [List.getElem?_cons_succ] at hi hj
        rw [nodup_keys hr i j ci cj k hi hj ki kj]
end
end Go.Ev

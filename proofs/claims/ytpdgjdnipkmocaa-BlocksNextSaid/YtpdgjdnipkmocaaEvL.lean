/- Each operation of the abstract machine stands for the machine's own: maps, clear, built values, the rest. -/
import Derived.Test.YtpdgjdnipkmocaaEvK
import Derived.MapKept
set_option linter.unusedVariables false
set_option linter.unusedSimpArgs false
namespace Go.Ev
open Go.MapKept (bytes_beq run_findKey heap_set)
section
variable {P : Program} {ρ : Nat → Option (Nat × Nat)} {I : Nat → Prop} {h : AH} {w : World} {nt : Nat} {a : Act} {s : Fr} {u u' : Value} {v X Y : PV}

/-- The key's kind at its type. -/
theorem kind_cases {t : TypeId} (hb : isBasic P t = true) (hk : kindOk (kindT P t) X = true) (hv : VR ρ I w u X) :
    (∃ k k' n, P.underlying t = some (.int k) ∧ u = .int k' n ∧ X = .int k' n) ∨ (∃ b, P.underlying t = some .bool ∧ u = .bool b ∧ X = .bool b) ∨ (∃ b, P.underlying t = some .string ∧ u = .string b ∧ X = .str b) := by
  have hd : (∃ k, P.underlying t = some (.int k)) ∨ P.underlying t = some .bool ∨ P.underlying t = some .string := by
    unfold isBasic at hb
    split at hb
    · rename_i k hu; exact .inl ⟨k, hu⟩
    · rename_i hu; exact .inr (.inr hu)
    · rename_i hu; exact .inr (.inl hu)
    · cases hb
  rcases hd with ⟨k, hu⟩ | hu | hu
  · have : kindT P t = 0 := by simp [kindT, hu]
    rw [this] at hk
    cases X <;> simp [kindOk] at hk
    exact .inl ⟨k, _, _, hu, hv.int_inv, rfl⟩
  · have : kindT P t = 1 := by simp [kindT, hu]
    rw [this] at hk
    cases X <;> simp [kindOk] at hk
    exact .inr (.inl ⟨_, hu, hv.bool_inv, rfl⟩)
  · have : kindT P t = 2 := by simp [kindT, hu]
    rw [this] at hk
    cases X <;> simp [kindOk] at hk
    exact .inr (.inr ⟨_, hu, hv.str_inv, rfl⟩)

theorem checkKey_ok {t : TypeId} (hb : isBasic P t = true) (hk : kindOk (kindT P t) X = true) (hv : VR ρ I w u X) (e : Bool) (n : Nat) : (Instr.checkKey e (n + 1) t u).run P w = .ok () w := by
  rcases kind_cases hb hk hv with ⟨k, k', m, hu, rfl, rfl⟩ | ⟨b, hu, rfl, rfl⟩ | ⟨b, hu, rfl, rfl⟩ <;> simp [Instr.checkKey, run_underlying hu]

theorem sameNow_ok {t : TypeId} {d : TypeDesc} {K : PV} {x : Value} {r : Bool} (hd : P.underlying t = some d) (hb : isBasic P t = true) (hk : kindOk (kindT P t) X = true) (hv : VR ρ I w u X) (hx : VR ρ I w x K) (e : cellEq X K = some r) :
    Instr.sameNow d u x = some r ∧ (r = true → x = u) := by
  rcases kind_cases hb hk hv with ⟨k, k', m, hu, rfl, rfl⟩ | ⟨b, hu, rfl, rfl⟩ | ⟨b, hu, rfl, rfl⟩
  · rw [hd] at hu
    cases hu
    cases K <;> simp [cellEq] at e
    obtain ⟨rfl, rfl⟩ := e
    rw [hx.int_inv]
    exact ⟨by simp [Instr.sameNow], fun h => by simp at h; rw [h]⟩
  · rw [hd] at hu
    cases hu
    cases K <;> simp [cellEq] at e
    subst e
    rw [hx.bool_inv]
    exact ⟨by simp [Instr.sameNow], fun h => by simp at h; rw [h]⟩
  · rw [hd] at hu
    cases hu
    cases K <;> simp [cellEq] at e
    subst e
    rw [hx.str_inv]
    rename_i c
    refine ⟨?_, fun h => by simp at h; rw [h]⟩
    have : (b == c) = decide (b = c) := by
      rw [Bool.eq_iff_iff, bytes_beq, decide_eq_true_eq]
    simp [Instr.sameNow, this]

theorem findNow_ok {t : TypeId} {d : TypeDesc} (hd : P.underlying t = some d) (hb : isBasic P t = true) (hk : kindOk (kindT P t) X = true) (hv : VR ρ I w u X) :
    ∀ (es : List (PV × PV)) (l : List MapEntry) (i : Nat) (r : Option (Nat × PV)), l.length = es.length → (∀ j (hj : j < es.length) (hj' : j < l.length), VR ρ I w l[j].key es[j].1 ∧ VR ρ I w l[j].val es[j].2) → findK X es i = some r →
      (r = none ∧ Instr.findNow d u l i = some none) ∨ ∃ j x y e, r = some (i + j, x) ∧ Instr.findNow d u l i = some (some (i + j, y)) ∧ VR ρ I w y x ∧ l[j]? = some e ∧ e.key = u
  | [], l, i, r, hl, _, e => by
    cases l with
    | nil => cases e; exact .inl ⟨rfl, rfl⟩
    | cons _ _ => simp at hl
  | (K, V) :: es, l, i, r, hl, hr, e => by
    cases l with
    | nil => simp at hl
    | cons m l =>
      obtain ⟨h1, h2⟩ := hr 0 (by simp) (by simp)
      simp only [List.getElem_cons_zero] at h1 h2
      simp only [findK] at e
      cases hc : cellEq X K with
      | none => simp [hc] at e
      | some b =>
        obtain ⟨g1, g2⟩ := sameNow_ok hd hb hk hv h1 hc
        cases b with
        | true =>
          simp only [hc] at e
          cases e
          exact .inr ⟨0, V, m.val, m, rfl, by simp [Instr.findNow, g1], h2, rfl, g2 rfl⟩
        | false =>
          simp only [hc] at e
          have ih := findNow_ok hd hb hk hv es l (i + 1) r (by simpa using hl) (fun j hj hj' => by
            have := hr (j + 1) (by simp; omega) (by simp; omega)
            simpa using this) e
          rcases ih with ⟨q1, q2⟩ | ⟨j, x, y, en, q1, q2, q3, q4, q5⟩
          · exact .inl ⟨q1, by simp [Instr.findNow, g1, q2]⟩
          · exact .inr ⟨j + 1, x, y, en, by rw [q1]; congr 2; omega, by simp [Instr.findNow, g1, q2]; omega, q3, by simpa using q4, q5⟩

theorem own_map (hs : SR ρ I h w) {i b o : Nat} {es : List (PV × PV)} (hb : h.blk i = some (.map es)) (hi : ρ i = some (b, o)) :
    ∃ M clock, w.heap[b]? = some (.map M clock) ∧ M.size = es.length ∧ ∀ j (hj : j < es.length) (hj' : j < M.size), VR ρ I w M[j].key es[j].1 ∧ VR ρ I w M[j].val es[j].2 := by
  obtain ⟨b2, o2, g2, hB⟩ := hs.live i _ hb
  rw [hi] at g2
  cases g2
  exact hB

theorem lkp_ok {t kt et : TypeId} {zv : Value} {zp : PV} {ok : Bool} (hs : SR ρ I h w) (hm : P.underlying t = some (.map kt et)) (hb : isBasic P kt = true) (hz : zeroT P et = some zv) (hzp : cst zv = some zp) (hx : VR ρ I w u X) (hy : VR ρ I w u' Y)
    (ev : evLkp h (kindT P kt) zp ok X Y = some v) : ∃ r, (Instr.lookup t u u' ok).run P w = .ok r w ∧ VR ρ I w r v := by
  have hd : ∃ d, P.underlying kt = some d := by
    cases e : P.underlying kt with
    | none => simp [isBasic, e] at hb
    | some d => exact ⟨d, rfl⟩
  obtain ⟨d, hd⟩ := hd
  unfold evLkp at ev
  split at ev
  · rename_i hk
    have ck : ∀ e, (Instr.checkKey e 10000 kt u').run P w = .ok () w := fun e => checkKey_ok (n := 9999) hb hk hy e
    have fin : ∀ (r : Option PV) (x : Value), VR ρ I w x (r.getD zp) → VR ρ I w (if ok then .tuple #[x, .bool r.isSome] else x) (lkpFin zp ok r) := by
      intro r x hx
      unfold lkpFin
      cases ok with
      | false => simpa using hx
      | true =>
        simp only [if_true]
        refine .tup rfl fun j hj => ?_
        have : j = 0 ∨ j = 1 := by simp at hj; omega
        rcases this with rfl | rfl
        · exact hx
        · exact .bool _
    cases X with
    | nilm =>
      simp only at ev
      cases ev
      cases hx
      exact ⟨_, by simp [Instr.lookup, run_underlying hm, ck, run_findKey (P := P) (w := w) hd (show Instr.findNow d u' [] 0 = some none from rfl), run_zeroValue hz], fin none zv (cst_vr hzp)⟩
    | mp i =>
      simp only at ev
      cases hbk : h.blk i with
      | none => simp [hbk] at ev
      | some B =>
        cases B with
        | cells cs => simp [hbk] at ev
        | map es =>
          simp only [hbk, Option.map_eq_some_iff] at ev
          obtain ⟨r, hr, rfl⟩ := ev
          cases hx with
          | mp hρ =>
            rename_i b o
            obtain ⟨M, clock, g1, g2, g3⟩ := own_map hs hbk hρ
            have hfind := findNow_ok (P := P) hd hb hk hy es M.toList 0 r (by simpa using g2) (fun j hj hj' => by simpa using g3 j hj (by simpa using hj')) hr
            rcases hfind with ⟨rfl, q2⟩ | ⟨j, x, y, e, rfl, q2, q3, q4, q5⟩
            · exact ⟨_, by simp [Instr.lookup, run_underlying hm, Go.MapKept.run_getObj_map g1, ck, run_findKey (P := P) (w := w) hd q2, run_zeroValue hz], fin none zv (cst_vr hzp)⟩
            · exact ⟨_, by simp [Instr.lookup, run_underlying hm, Go.MapKept.run_getObj_map g1, ck, run_findKey (P := P) (w := w) hd q2], fin (some x) y q3⟩
    | _ => simp at ev
  · cases ev

theorem upd_ok {t kt et : TypeId} {u'' : Value} {Z : PV} {h' : AH} (hs : SR ρ I h w) (hm : P.underlying t = some (.map kt et)) (hb : isBasic P kt = true) (hx : VR ρ I w u X) (hy : VR ρ I w u' Y) (hz : VR ρ I w u'' Z)
    (ev : evUpd h (kindT P kt) X Y Z = some (v, h')) : ∃ w', (Instr.mapUpdate t u u' u'').run P w = .ok () w' ∧ SR ρ I h' w' ∧ St ρ I h w ρ I h' w' ∧ v = .undef := by
  have hd : ∃ d, P.underlying kt = some d := by
    cases e : P.underlying kt with
    | none => simp [isBasic, e] at hb
    | some d => exact ⟨d, rfl⟩
  obtain ⟨d, hd⟩ := hd
  unfold evUpd at ev
  cases X with
  | mp i =>
    simp only at ev
    cases hbk : h.blk i with
    | none => simp [hbk] at ev
    | some B =>
      cases B with
      | cells cs => simp [hbk] at ev
      | map es =>
        simp only [hbk] at ev
        split at ev
        · rename_i hk
          have ck : ∀ e, (Instr.checkKey e 10000 kt u').run P w = .ok () w := fun e => checkKey_ok (n := 9999) hb hk hy e
          cases hx with
          | mp hρ =>
            rename_i b o
            obtain ⟨M, clock, g1, g2, g3⟩ := own_map hs hbk hρ
            have hlt : b < w.heap.size := (Array.getElem?_eq_some_iff.1 g1).1
            have keyBits : ∀ n, Instr.sameBits n u' u' = true := by
              intro n
              rcases kind_cases hb hk hy with ⟨k, k', m, hu, rfl, rfl⟩ | ⟨b, hu, rfl, rfl⟩ | ⟨b, hu, rfl, rfl⟩ <;> simp [Instr.sameBits, bytes_beq]
            have wr : ∀ (M' : Array MapEntry) (c' : Nat) (es' : List (PV × PV)), M'.size = es'.length → (∀ j (hj : j < es'.length) (hj' : j < M'.size), VR ρ I w M'[j].key es'[j].1 ∧ VR ρ I w M'[j].val es'[j].2) →
                SR ρ I (h.set i (.map es')) { w with heap := w.heap.setIfInBounds b (.map M' c') } ∧ St ρ I h w ρ I (h.set i (.map es')) { w with heap := w.heap.setIfInBounds b (.map M' c') } := by
              intro M' c' es' e1 e2
              refine hs.wrote (by rw [hbk]; simp) hρ rfl rfl rfl (by simp) (fun q hq => (heap_set g1).2 q hq) (fun C T f e => by rw [g1] at e; cases e) fun st => ?_
              exact ⟨M', c', (heap_set g1).1, e1, fun j hj hj' => ⟨(e2 j hj hj').1.step hs st, (e2 j hj hj').2.step hs st⟩⟩
            cases hf : findK Y es 0 with
            | none => simp [hf] at ev
            | some r =>
              have hfind := findNow_ok (P := P) hd hb hk hy es M.toList 0 r (by simpa using g2) (fun j hj hj' => by simpa using g3 j hj (by simpa using hj')) hf
              rcases hfind with ⟨rfl, q2⟩ | ⟨j, x, y, e, rfl, q2, q3, q4, q5⟩
              · simp only [hf] at ev
                cases ev
                obtain ⟨k1, k2⟩ := wr (M.push { key := u', val := u'', born := clock }) (clock + 1) (es ++ [(Y, Z)]) (by simp [g2]) (fun j hj hj' => by
                  by_cases q : j < M.size
                  · have := g3 j (by omega) q
                    simp only [Array.getElem_push, q, dite_true, List.getElem_append, show j < es.length by omega]
                    exact this
                  · have hj2 : j = M.size := by simp at hj'; omega
                    subst hj2
                    simp only [Array.getElem_push, q, dite_false, List.getElem_append, show ¬ M.size < es.length by omega, g2]
                    simpa using ⟨hy, hz⟩)
                refine ⟨_, ?_, k1, k2, by first | rfl | trivial⟩
                simp [Instr.mapUpdate, run_underlying hm, Go.MapKept.run_getObj_map g1, ck, run_findKey (P := P) (w := w) hd q2, Go.MapKept.run_setObj_map _ g1]
              · simp only [hf] at ev
                cases ev
                have hjl : j < M.size := by
                  have := (List.getElem?_eq_some_iff.1 q4).1
                  simpa using this
                have hej : M[j]? = some e := by simpa using q4
                obtain ⟨k1, k2⟩ := wr (M.modify j fun e => { e with key := u', val := u'' }) clock (es.set j (Y, Z)) (by simp [g2]) (fun k hk' hk'' => by
                  simp only [Array.getElem_modify, List.getElem_set]
                  by_cases q : j = k
                  · rw [if_pos q, if_pos q]; exact ⟨hy, hz⟩
                  · rw [if_neg q, if_neg q]
                    exact g3 k (by simpa using hk') (by simpa using hk''))
                simp only [Nat.zero_add]
                refine ⟨_, ?_, k1, k2, by first | rfl | trivial⟩
                simp [Instr.mapUpdate, run_underlying hm, Go.MapKept.run_getObj_map g1, ck, run_findKey (P := P) (w := w) hd q2, hej, q5, Instr.keyThatStays, keyBits, Go.MapKept.run_setObj_map _ g1]
        · cases ev
  | _ => simp at ev
end
end Go.Ev

/- The arguments of a statement of the second form: how great they are. -/
import Derived.Test.YtkaabknkabdfpaaGreatDoorLibB
set_option linter.unusedVariables false
set_option linter.unusedSimpArgs false
namespace Go.Ev

/-- No list is longer than N, no string either. -/
def Sh.small (N : Nat) : (s : Sh) → s.den → Prop
  | .int _, _ => True
  | .bool, _ => True
  | .str, (b : ByteArray) => b.size ≤ N
  | .sl e, (l : List e.den) => l.length ≤ N ∧ ∀ x ∈ l, e.small N x
  | .unit, _ => True
  | .pair a b, (x : a.den × b.den) => a.small N x.1 ∧ b.small N x.2

theorem Sh.small_mono : ∀ (s : Sh) (N M : Nat) (h : N ≤ M) (d : s.den), s.small N d → s.small M d
  | .int _, _, _, _, _, _ => trivial
  | .bool, _, _, _, _, _ => trivial
  | .str, _, _, h, _, q => Nat.le_trans q h
  | .sl e, N, M, h, _, q => ⟨Nat.le_trans q.1 h, fun x hx => e.small_mono N M h x (q.2 x hx)⟩
  | .unit, _, _, _, _, _ => trivial
  | .pair a b, N, M, h, _, q => ⟨a.small_mono N M h _ q.1, b.small_mono N M h _ q.2⟩

def sumB {H : Type} (B : DataW H → Nat) : List (DataW H) → Nat
  | [] => 0
  | d :: r => B d + sumB B r
/-- A measure of readings that counts every place and every letter. -/
structure Bulk {H : Type} (B : DataW H → Nat) : Prop where
  str : ∀ b : ByteArray, b.size ≤ B (.lit (.string b.data.toList))
  len : ∀ es sp, es.length ≤ B (.slice es sp)
  elems : ∀ es sp, sumB B es ≤ B (.slice es sp)
  agg : ∀ ps, sumB B ps ≤ B (.agg ps)
theorem sumB_mem {H : Type} {B : DataW H → Nat} {d : DataW H} {l : List (DataW H)} (h : d ∈ l) : B d ≤ sumB B l := by
  induction l with
  | nil => cases h
  | cons x r ih =>
    simp only [sumB]
    rcases List.mem_cons.1 h with e | e
    · subst e; omega
    · have := ih e; omega

section
variable {H : Type} {enc : TypeId × Value → H} {P : Program} {w : World} {base : Nat} {sp : Nat → Bool} {held : Bool} {ρ : Nat → Option (Nat × Nat)} {I : Nat → Prop} {B : DataW H → Nat}

/-- A slice's elements, read one by one, make one slice of the abstract machine. -/
theorem sl_soundK {e : Sh} {K : e.den → Prop} {a : Addr} {len cap : Nat} (hlc : len ≤ cap) (hI : ∀ b, base ≤ b → b < w.heap.size → I b)
    (hel : ∀ i, i < len → ∃ cs, w.cells? base (a.add (i * e.size)) e.size = some cs ∧ ∃ d : e.den, K d ∧ CR ρ I w cs (e.pv d)) :
    ∃ l : List e.den, l.length = len ∧ (∀ x ∈ l, K x) ∧ VR ρ I w (.slice (some a) len cap) (.sl len (l.map e.pv).flatten) := by
  have hch : ∃ l : List e.den, l.length = len ∧ ∀ i (hi : i < l.length), K l[i] ∧ ∃ cs, w.cells? base (a.add (i * e.size)) e.size = some cs ∧ CR ρ I w cs (e.pv l[i]) := by
    clear hlc
    induction len with
    | zero => exact ⟨[], rfl, fun i hi => absurd hi (by simp)⟩
    | succ n ih =>
      obtain ⟨l, hl, hp⟩ := ih fun i hi => hel i (by omega)
      obtain ⟨cs, h1, d, h2, h3⟩ := hel n (by omega)
      refine ⟨l ++ [d], by simp [hl], fun i hi => ?_⟩
      by_cases h : i < l.length
      · rw [List.getElem_append_left h]; exact hp i h
      · have : i = n := by simp at hi; omega
        subst this
        rw [List.getElem_append_right (by omega)]
        simp only [hl, Nat.sub_self, List.getElem_cons_zero]
        exact ⟨h2, cs, h1, h3⟩
  obtain ⟨l, hl, hp⟩ := hch
  refine ⟨l, hl, fun x hx => ?_, ?_⟩
  · obtain ⟨i, hi, rfl⟩ := List.getElem_of_mem hx; exact (hp i hi).1
  have hlen : (l.map e.pv).flatten.length = len * e.size := by rw [flat_len (e.pv_len), hl]
  by_cases hne : (l.map e.pv).flatten = []
  · rw [hne]
    exact .sl (fun _ => undef) hlc (fun h => absurd rfl h) (fun j hj => absurd hj (by simp)) (by simp)
  have hpos : 0 < len * e.size := by rw [← hlen]; exact List.length_pos_iff.2 hne
  have hz : 0 < e.size := Nat.pos_of_mul_pos_left hpos
  have hn : 0 < len := Nat.pos_of_mul_pos_right hpos
  obtain ⟨_, cs0, h0, h00⟩ := hp 0 (by omega)
  have ha : a = ⟨a.block, a.off, none⟩ ∧ I a.block := by
    have hb : a.block < w.heap.size := by
      have := World.cells?_block h0 hz
      unfold Addr.add at this
      split at this <;> exact this
    obtain ⟨h1, h2, h3⟩ := World.cells?_some h0
    have h4 := h3 0 hz
    simp only [Nat.zero_mul] at h4 h1
    have e1 : (a.add 0).add 0 = a := by simp [Addr.add]
    have e2 : a.add 0 = a := by simp [Addr.add]
    rw [e1] at h4
    rw [e2] at h1
    refine ⟨?_, hI _ h1 hb⟩
    have : cs0[0]? = some (cs0[0]'(by omega)) := List.getElem?_eq_getElem _
    rw [this] at h4
    exact cell_spot h4
  obtain ⟨ha, hIb⟩ := ha
  have key : ∀ j (hj : j < (l.map e.pv).flatten.length), ∃ u, w.cell? ⟨a.block, a.off + j, none⟩ = some u ∧ VR ρ I w u (l.map e.pv).flatten[j] := by
    intro j hj
    have hi : j / e.size < l.length := by rw [hl]; exact Nat.div_lt_of_lt_mul (by rw [Nat.mul_comm]; omega)
    have hk : j % e.size < e.size := Nat.mod_lt _ hz
    have hjj : j / e.size * e.size + j % e.size = j := by rw [Nat.mul_comm]; exact Nat.div_add_mod j e.size
    obtain ⟨_, cs, h1, h2⟩ := hp _ hi
    obtain ⟨_, h4, h5⟩ := World.cells?_some h1
    have h6 := h5 _ hk
    rw [ha, add_none, add_none, Nat.add_assoc, hjj] at h6
    have hk' : j % e.size < cs.length := by omega
    rw [List.getElem?_eq_getElem hk'] at h6
    refine ⟨_, h6, ?_⟩
    have h7 := flat_get (e.pv_len) l (j / e.size) (j % e.size) hi hk
    rw [hjj, List.getElem?_eq_getElem hj] at h7
    have hk2 : j % e.size < (e.pv l[j / e.size]).length := by rw [e.pv_len]; exact hk
    rw [List.getElem?_eq_getElem hk2] at h7
    have h8 := h2.2 _ hk2
    rw [List.getD_eq_getElem?_getD, List.getElem?_eq_getElem hk'] at h8
    rw [Option.some.inj h7]
    exact h8
  refine .sl (fun j => (w.cell? ⟨a.block, a.off + j, none⟩).getD undef) hlc (fun _ => ⟨a.block, a.off, by rw [← ha], hIb, fun j hj => ?_⟩) (fun j hj => ?_) ?_
  · obtain ⟨u, h1, _⟩ := key j hj; rw [h1]; rfl
  · obtain ⟨u, h1, h2⟩ := key j hj; rw [h1]; exact h2
  · intro x hx
    obtain ⟨y, hy, hxy⟩ := List.mem_flatten.1 hx
    obtain ⟨d, _, rfl⟩ := List.mem_map.1 hy
    exact e.pv_one d x hxy

theorem shFs_small {r : TypeId → List Value → Option (DataW H × List MemPlace)} {sh : TypeId → Option Sh}
    (ih : ∀ t cs x s, r t cs = some x → sh t = some s → ∃ d : s.den, s.ok d ∧ s.small (B x.1) d ∧ CR ρ I w cs (s.pv d)) (cs : List Value) :
    ∀ (fs : List Field) (off : Nat) (s : Sh) (xs : List (DataW H × List MemPlace)), shFs sh P off fs = some s → (fs.mapM fun f => r f.type ((cs.drop f.offset).take (P.cellsOf f.type))) = some xs →
      ∃ d : s.den, s.ok d ∧ s.small (sumB B (xs.map (·.1))) d ∧ CR ρ I w ((cs.drop off).take s.size) (s.pv d) := by
  intro fs
  induction fs with
  | nil =>
    intro off s xs h _
    simp only [shFs] at h
    cases h
    exact ⟨(), trivial, trivial, by simp [Sh.size, Sh.pv, CR]⟩
  | cons f fs ihf =>
    intro off s xs h hm
    obtain ⟨y, ys, hy, hys, rfl⟩ := mapM_cons_some hm
    simp only [shFs] at h
    split at h
    · rename_i hoff
      split at h
      · rename_i s1 hs1
        split at h
        · rename_i hz
          split at h
          · rename_i s2 hs2
            cases h
            obtain ⟨d1, ho1, hm1, hc1⟩ := ih _ _ _ _ hy hs1
            obtain ⟨d2, ho2, hm2, hc2⟩ := ihf _ _ _ hs2 hys
            refine ⟨(d1, d2), ⟨ho1, ho2⟩, ⟨s1.small_mono _ _ (by simp [sumB]) d1 hm1, s2.small_mono _ _ (by simp [sumB]) d2 hm2⟩, ?_⟩
            rw [← hz, hoff] at hc1
            have : (cs.drop off).take (s1.size + s2.size) = (cs.drop off).take s1.size ++ (cs.drop (off + s1.size)).take s2.size := by
              rw [List.take_add, List.drop_drop]
            show CR ρ I w ((cs.drop off).take (s1.size + s2.size)) _
            rw [this]
            exact CR_append hc1 hc2
          · cases h
        · cases h
      · cases h
    · cases h

theorem trod_small (hB : Bulk B) (hI : ∀ b, base ≤ b → b < w.heap.size → I b) : ∀ (n : Nat) (t : TypeId) (cs : List Value) (x : DataW H × List MemPlace), DataW.trod enc P w base sp held n t cs = some x →
    ∀ (m : Nat) (s : Sh), shT P m t = some s → ∃ d : s.den, s.ok d ∧ s.small (B x.1) d ∧ CR ρ I w cs (s.pv d) := by
  intro n
  induction n with
  | zero => intro t cs x h; simp [DataW.trod] at h
  | succ n ih =>
    intro t cs x h m s hs
    cases m with
    | zero => cases hs
    | succ m =>
    rw [DataW.trod_step] at h
    simp only [shT] at hs
    split at hs
    · rename_i hu
      cases hs
      unfold DataW.trodStep at h
      rw [hu] at h
      split at h
      all_goals first | cases h; done | skip
      all_goals first | (rename_i e1 _; cases e1; done) | skip
      all_goals first | exact ⟨_, trivial, trivial, CR_one (.bool _)⟩ | (rename_i e1; cases e1; done) | skip
    · rename_i k hu
      cases hs
      unfold DataW.trodStep at h
      rw [hu] at h
      split at h <;> rename_i e1 <;> (try cases e1)
      · split at h
        · rename_i hc
          obtain ⟨rfl, hw⟩ := hc
          simp only [Lit.wf, Bool.and_eq_true, decide_eq_true_eq] at hw
          exact ⟨_, hw, trivial, CR_one (.int _ _)⟩
        · cases h
      all_goals cases h
    · rename_i hu
      cases hs
      unfold DataW.trodStep at h
      rw [hu] at h
      split at h <;> rename_i e1 <;> (try cases e1)
      · split at h
        · rename_i hc
          cases h
          exact ⟨_, hc, hB.str _, CR_one (.str _)⟩
        · cases h
      all_goals cases h
    · rename_i e hu
      split at hs
      · rename_i s1 hs1
        split at hs
        · rename_i hz
          cases hs
          unfold DataW.trodStep at h
          rw [hu] at h
          split at h <;> rename_i e1 <;> (try cases e1)
          · exact ⟨([] : List s1.den), ⟨Nat.zero_le _, fun x hx => by cases hx⟩, ⟨Nat.zero_le _, fun x hx => by cases hx⟩, CR_one (.sl (fun _ => undef) (Nat.le_refl 0) (fun h => absurd rfl h) (fun j hj => absurd hj (by simp)) (by simp))⟩
          · simp only at h
            split at h
            · rename_i hc
              simp only [Option.map_eq_some_iff, Option.bind_eq_some_iff] at h
              obtain ⟨elems, he, rest, hrest, rfl⟩ := h
              rw [← hz] at he
              obtain ⟨l, h1, h2, h3⟩ := sl_soundK (ρ := ρ) (e := s1) (K := fun d => s1.ok d ∧ s1.small (B (.slice (elems.map (·.1)) (rest.map (·.1)))) d) hc.2.1 hI fun i hi => by
                have hlen := mapM_some_length he
                have hg := mapM_some_get he i i (by simp [hi])
                have hi' : i < elems.length := by rw [hlen]; simpa using hi
                rw [List.getElem?_eq_getElem hi', Option.bind_eq_some_iff] at hg
                obtain ⟨cs, hcs, hr⟩ := hg
                obtain ⟨d, q1, q2, q3⟩ := ih _ _ _ hr m s1 hs1
                exact ⟨cs, hcs, d, ⟨q1, s1.small_mono _ _ (Nat.le_trans (sumB_mem (List.mem_map.2 ⟨elems[i], List.getElem_mem hi', rfl⟩)) (hB.elems _ _)) d q2⟩, q3⟩
              have hel : elems.length = _ := mapM_some_length he
              refine ⟨l, ⟨by rw [h1]; omega, fun x hx => (h2 x hx).1⟩, ⟨?_, fun x hx => (h2 x hx).2⟩, ?_⟩
              · rw [h1]
                have h4 := hB.len (elems.map (·.1)) (rest.map (·.1))
                rw [List.length_map, hel, List.length_range] at h4
                exact h4
              show CR ρ I w _ [PV.sl l.length (l.map s1.pv).flatten]
              rw [h1]
              exact CR_one h3
            · cases h
          all_goals cases h
        · cases hs
      · cases hs
    · rename_i fs hu
      split at hs
      · rename_i s1 hs1
        split at hs
        · rename_i hz
          cases hs
          unfold DataW.trodStep at h
          rw [hu] at h
          change (if cs.length = P.cellsOf t then (fs.toList.mapM fun f => DataW.trod enc P w base sp held n f.type ((cs.drop f.offset).take (P.cellsOf f.type))).map fun xs => (DataW.agg (xs.map (·.1)), xs.flatMap (·.2)) else none) = some x at h
          split at h
          · rename_i hc
            simp only [Option.map_eq_some_iff] at h
            obtain ⟨xs, hx, rfl⟩ := h
            obtain ⟨d, h1, hm, h2⟩ := shFs_small (B := B) (ρ := ρ) (I := I) (w := w) (fun t cs x s hr hsh => ih t cs x hr m s hsh) cs _ _ _ _ hs1 hx
            refine ⟨d, h1, Sh.small_mono _ _ _ (hB.agg _) d hm, ?_⟩
            rw [List.drop_zero, hz, ← hc, List.take_length] at h2
            exact h2
          · cases h
        · cases hs
      · cases hs
    · cases hs

variable {W : World}
theorem arg_small {t : TypeId} {fs : Array Field} {v : Value} {d : DataW H} {p : List MemPlace} {sp : Nat → Bool} {held : Bool} (hB : Bulk B) (hu : P.underlying t = some (.struct fs)) {m : Nat} {s : Sh} (hs : shT P m t = some s)
    (hv : Value.okWide P W .any base t v) (ht : DataW.Trod enc P W 0 sp held t v d p) : ∃ x : s.den, (s.ok x ∧ s.small (B d) x) ∧ VR R0 (fun b => b < W.heap.size) W v (.agg (s.pv x)) := by
  simp only [Value.okWide, hu] at hv
  obtain ⟨cs, rfl, hsz, _⟩ := hv
  obtain ⟨n, hn⟩ := ht
  obtain ⟨x, hx, hm, hc⟩ := trod_small (ρ := R0) (I := fun b => b < W.heap.size) hB (fun b _ hb => hb) n t _ _ hn m s hs
  refine ⟨x, ⟨hx, hm⟩, .agg hc.1 (fun j hj => ?_) (s.pv_one x)⟩
  have := hc.2 j hj
  simpa [Value.cells, Array.getD_eq_getD_getElem?, List.getD_eq_getElem?_getD] using this

theorem one_small {t : TypeId} {v : Value} {d : DataW H} {p : List MemPlace} {sp : Nat → Bool} {held : Bool} (hB : Bulk B) {m : Nat} {s : Sh} (hs : shT P m t = some s)
    (hv : v.cells = #[v]) (ht : DataW.Trod enc P W 0 sp held t v d p) : ∃ x : s.den, (s.ok x ∧ s.small (B d) x) ∧ CR R0 (fun b => b < W.heap.size) W [v] (s.pv x) := by
  obtain ⟨n, hn⟩ := ht
  rw [hv] at hn
  obtain ⟨x, hx, hm, hc⟩ := trod_small (ρ := R0) (I := fun b => b < W.heap.size) hB (fun b _ hb => hb) n t _ _ hn m s hs
  exact ⟨x, ⟨hx, hm⟩, hc⟩
end
end Go.Ev

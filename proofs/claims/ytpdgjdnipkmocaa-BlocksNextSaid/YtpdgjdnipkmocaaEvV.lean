/- Shapes: the arguments of a statement as plain data, and the abstract machine's values for them. -/
import Derived.Test.YtpdgjdnipkmocaaEvB
import Derived.ChangeOld
import Derived.ChangeReads
set_option linter.unusedVariables false
set_option linter.unusedSimpArgs false
namespace Go.Ev

inductive Sh where
  | int (k : IntKind)
  | bool
  | str
  | sl (e : Sh)
  | unit
  | pair (a b : Sh)

def Sh.size : Sh → Nat
  | .unit => 0
  | .pair a b => a.size + b.size
  | _ => 1

def Sh.den : Sh → Type
  | .int _ => Int
  | .bool => Bool
  | .str => ByteArray
  | .sl e => List e.den
  | .unit => Unit
  | .pair a b => a.den × b.den

def Sh.pv : (s : Sh) → s.den → List PV
  | .int k, (n : Int) => [.int k n]
  | .bool, (b : Bool) => [.bool b]
  | .str, (b : ByteArray) => [.str b]
  | .sl e, (l : List e.den) => [.sl l.length (l.map e.pv).flatten]
  | .unit, _ => []
  | .pair a b, (x : a.den × b.den) => a.pv x.1 ++ b.pv x.2

def Sh.ok : (s : Sh) → s.den → Prop
  | .int k, (n : Int) => k.min ≤ n ∧ n ≤ k.max
  | .bool, _ => True
  | .str, (b : ByteArray) => b.size ≤ maxLen
  | .sl e, (l : List e.den) => l.length ≤ maxLen ∧ ∀ x ∈ l, e.ok x
  | .unit, _ => True
  | .pair a b, (x : a.den × b.den) => a.ok x.1 ∧ b.ok x.2

theorem Sh.pv_len : ∀ (s : Sh) (d : s.den), (s.pv d).length = s.size
  | .int _, _ => rfl
  | .bool, _ => rfl
  | .str, _ => rfl
  | .sl _, _ => rfl
  | .unit, _ => rfl
  | .pair a b, x => by simp only [Sh.pv, List.length_append, Sh.size, a.pv_len, b.pv_len]

theorem Sh.pv_one : ∀ (s : Sh) (d : s.den), ∀ x ∈ s.pv d, x.one = true
  | .int _, _ => by intro x hx; cases List.mem_singleton.1 hx; rfl
  | .bool, _ => by intro x hx; cases List.mem_singleton.1 hx; rfl
  | .str, _ => by intro x hx; cases List.mem_singleton.1 hx; rfl
  | .sl _, _ => by intro x hx; cases List.mem_singleton.1 hx; rfl
  | .unit, _ => by intro x hx; cases hx
  | .pair a b, y => by
    intro x hx
    rcases List.mem_append.1 hx with h | h
    · exact a.pv_one _ x h
    · exact b.pv_one _ x h

def shFs (r : TypeId → Option Sh) (P : Program) : Nat → List Field → Option Sh
  | _, [] => some .unit
  | off, f :: fs => if f.offset = off then match r f.type with
    | some s => if s.size = P.cellsOf f.type then match shFs r P (off + s.size) fs with
      | some s' => some (.pair s s')
      | none => none
      else none
    | none => none
    else none

def shT (P : Program) : Nat → TypeId → Option Sh
  | 0, _ => none
  | n + 1, t => match P.underlying t with
    | some .bool => some .bool
    | some (.int k) => some (.int k)
    | some .string => some .str
    | some (.slice e) => match shT P n e with
      | some s => if s.size = P.cellsOf e then some (.sl s) else none
      | none => none
    | some (.struct fs) => match shFs (shT P n) P 0 fs.toList with
      | some s => if s.size = P.cellsOf t then some s else none
      | none => none
    | _ => none

theorem flat_len {α β : Type} {f : α → List β} {z : Nat} (hf : ∀ x, (f x).length = z) (l : List α) : (l.map f).flatten.length = l.length * z := by
  induction l with
  | nil => simp
  | cons a l ih => simp [ih, hf, Nat.succ_mul, Nat.add_comm]

theorem flat_get {α β : Type} {f : α → List β} {z : Nat} (hf : ∀ x, (f x).length = z) : ∀ (l : List α) (i k : Nat) (hi : i < l.length) (hk : k < z),
    (l.map f).flatten[i * z + k]? = (f l[i])[k]? := by
  intro l
  induction l with
  | nil => intro i k hi; simp at hi
  | cons a l ih =>
    intro i k hi hk
    rw [List.map_cons, List.flatten_cons]
    cases i with
    | zero => simp only [Nat.zero_mul, Nat.zero_add]; rw [List.getElem?_append_left (by rw [hf]; exact hk)]; rfl
    | succ i =>
      rw [List.getElem?_append_right (by rw [hf, Nat.succ_mul]; omega), hf, show (i + 1) * z + k - z = i * z + k by rw [Nat.succ_mul]; omega]
      rw [ih i k (by simpa using hi) hk]
      rfl

section
variable {H : Type} {enc : TypeId × Value → H} {P : Program} {w : World} {base : Nat} {sp : Nat → Bool} {held : Bool} {ρ : Nat → Option (Nat × Nat)} {I : Nat → Prop}

def CR (ρ : Nat → Option (Nat × Nat)) (I : Nat → Prop) (w : World) (cs : List Value) (vs : List PV) : Prop :=
  cs.length = vs.length ∧ ∀ j (hj : j < vs.length), VR ρ I w (cs.getD j undef) vs[j]

theorem CR_one {u : Value} {v : PV} (h : VR ρ I w u v) : CR ρ I w [u] [v] :=
  ⟨rfl, fun j hj => by
    have : j = 0 := by simpa using hj
    subst this
    exact h⟩

theorem CR_append {a b : List Value} {x y : List PV} (h1 : CR ρ I w a x) (h2 : CR ρ I w b y) : CR ρ I w (a ++ b) (x ++ y) := by
  refine ⟨by simp [h1.1, h2.1], fun j hj => ?_⟩
  rw [List.getElem_append, List.getD_eq_getElem?_getD, List.getElem?_append]
  by_cases h : j < x.length
  · rw [dif_pos h, if_pos (by rw [h1.1]; exact h), ← List.getD_eq_getElem?_getD]
    exact h1.2 j h
  · rw [dif_neg h, if_neg (by rw [h1.1]; exact h), ← List.getD_eq_getElem?_getD, h1.1]
    exact h2.2 _ _

theorem mapM_cons_some {α β : Type} {f : α → Option β} {a : α} {l : List α} {r : List β} (h : (a :: l).mapM f = some r) : ∃ y ys, f a = some y ∧ l.mapM f = some ys ∧ r = y :: ys := by
  rw [List.mapM_cons] at h
  cases ha : f a with
  | none => simp [ha] at h
  | some y =>
    cases hl : l.mapM f with
    | none => simp [ha, hl] at h
    | some ys => simp [ha, hl] at h; exact ⟨y, ys, rfl, rfl, h.symm⟩

theorem shFs_sound {r : TypeId → List Value → Option (DataW H × List MemPlace)} {sh : TypeId → Option Sh}
    (ih : ∀ t cs x s, r t cs = some x → sh t = some s → ∃ d : s.den, s.ok d ∧ CR ρ I w cs (s.pv d)) (cs : List Value) :
    ∀ (fs : List Field) (off : Nat) (s : Sh) (xs : List (DataW H × List MemPlace)), shFs sh P off fs = some s → (fs.mapM fun f => r f.type ((cs.drop f.offset).take (P.cellsOf f.type))) = some xs →
      ∃ d : s.den, s.ok d ∧ CR ρ I w ((cs.drop off).take s.size) (s.pv d) := by
  intro fs
  induction fs with
  | nil =>
    intro off s xs h _
    simp only [shFs] at h
    cases h
    exact ⟨(), trivial, by simp [Sh.size, Sh.pv, CR]⟩
  | cons f fs ihf =>
    intro off s xs h hm
    obtain ⟨y, ys, hy, hys, rfl⟩ := mapM_cons_some hm
    simp only [shFs] at h
    split at h
    · rename_i hoff
      split at h
      · rename_i s1 hs1
        split at h
        · rename_i hz
          split at h
          · rename_i s2 hs2
            cases h
            obtain ⟨d1, ho1, hc1⟩ := ih _ _ _ _ hy hs1
            obtain ⟨d2, ho2, hc2⟩ := ihf _ _ _ hs2 hys
            refine ⟨(d1, d2), ⟨ho1, ho2⟩, ?_⟩
            rw [← hz, hoff] at hc1
            have : (cs.drop off).take (s1.size + s2.size) = (cs.drop off).take s1.size ++ (cs.drop (off + s1.size)).take s2.size := by
              rw [List.take_add, List.drop_drop]
            show CR ρ I w ((cs.drop off).take (s1.size + s2.size)) _
            rw [this]
            exact CR_append hc1 hc2
          · cases h
        · cases h
      · cases h
    · cases h

theorem cell_spot {a : Addr} {x : Value} (h : w.cell? a = some x) : a = ⟨a.block, a.off, none⟩ := by
  unfold World.cell? at h
  split at h
  · split at h
    · cases h
    · rename_i hs
      cases hsp : a.spot with
      | none => cases a; simp_all
      | some s => simp [hsp] at hs
  · cases h

theorem add_none (b o n : Nat) : Addr.add ⟨b, o, none⟩ n = ⟨b, o + n, none⟩ := by
  unfold Addr.add
  split
  · rename_i h; simp [h]
  · rfl

/-- A slice's elements, read one by one, make one slice of the abstract machine. -/
theorem sl_sound {e : Sh} {a : Addr} {len cap : Nat} (hlc : len ≤ cap) (hI : ∀ b, base ≤ b → b < w.heap.size → I b)
    (hel : ∀ i, i < len → ∃ cs, w.cells? base (a.add (i * e.size)) e.size = some cs ∧ ∃ d : e.den, e.ok d ∧ CR ρ I w cs (e.pv d)) :
    ∃ l : List e.den, l.length = len ∧ (∀ x ∈ l, e.ok x) ∧ VR ρ I w (.slice (some a) len cap) (.sl len (l.map e.pv).flatten) := by
  have hch : ∃ l : List e.den, l.length = len ∧ ∀ i (hi : i < l.length), e.ok l[i] ∧ ∃ cs, w.cells? base (a.add (i * e.size)) e.size = some cs ∧ CR ρ I w cs (e.pv l[i]) := by
    clear hlc
    induction len with
    | zero => exact ⟨[], rfl, fun i hi => absurd hi (by simp)⟩
    | succ n ih =>
      obtain ⟨l, hl, hp⟩ := ih fun i hi => hel i (by omega)
      obtain ⟨cs, h1, d, h2, h3⟩ := hel n (by omega)
      refine ⟨l ++ [d], by simp [hl], fun i hi => ?_⟩
      by_cases h : i < l.length
      · rw [List.getElem_append_left h]; exact hp i h
      · have : i = n := by simp at hi; omega
        subst this
        rw [List.getElem_append_right (by omega)]
        simp only [hl, Nat.sub_self, List.getElem_cons_zero]
        exact ⟨h2, cs, h1, h3⟩
  obtain ⟨l, hl, hp⟩ := hch
  refine ⟨l, hl, fun x hx => ?_, ?_⟩
  · obtain ⟨i, hi, rfl⟩ := List.getElem_of_mem hx; exact (hp i hi).1
  have hlen : (l.map e.pv).flatten.length = len * e.size := by rw [flat_len (e.pv_len), hl]
  by_cases hne : (l.map e.pv).flatten = []
  · rw [hne]
    exact .sl (fun _ => undef) hlc (fun h => absurd rfl h) (fun j hj => absurd hj (by simp)) (by simp)
  have hpos : 0 < len * e.size := by rw [← hlen]; exact List.length_pos_iff.2 hne
  have hz : 0 < e.size := Nat.pos_of_mul_pos_left hpos
  have hn : 0 < len := Nat.pos_of_mul_pos_right hpos
  obtain ⟨_, cs0, h0, h00⟩ := hp 0 (by omega)
  have ha : a = ⟨a.block, a.off, none⟩ ∧ I a.block := by
    have hb : a.block < w.heap.size := by
      have := World.cells?_block h0 hz
      unfold Addr.add at this
      split at this <;> exact this
    obtain ⟨h1, h2, h3⟩ := World.cells?_some h0
    have h4 := h3 0 hz
    simp only [Nat.zero_mul] at h4 h1
    have e1 : (a.add 0).add 0 = a := by simp [Addr.add]
    have e2 : a.add 0 = a := by simp [Addr.add]
    rw [e1] at h4
    rw [e2] at h1
    refine ⟨?_, hI _ h1 hb⟩
    have : cs0[0]? = some (cs0[0]'(by omega)) := List.getElem?_eq_getElem _
    rw [this] at h4
    exact cell_spot h4
  obtain ⟨ha, hIb⟩ := ha
  have key : ∀ j (hj : j < (l.map e.pv).flatten.length), ∃ u, w.cell? ⟨a.block, a.off + j, none⟩ = some u ∧ VR ρ I w u (l.map e.pv).flatten[j] := by
    intro j hj
    have hi : j / e.size < l.length := by rw [hl]; exact Nat.div_lt_of_lt_mul (by rw [Nat.mul_comm]; omega)
    have hk : j % e.size < e.size := Nat.mod_lt _ hz
    have hjj : j / e.size * e.size + j % e.size = j := by rw [Nat.mul_comm]; exact Nat.div_add_mod j e.size
    obtain ⟨_, cs, h1, h2⟩ := hp _ hi
    obtain ⟨_, h4, h5⟩ := World.cells?_some h1
    have h6 := h5 _ hk
    rw [ha, add_none, add_none, Nat.add_assoc, hjj] at h6
    have hk' : j % e.size < cs.length := by omega
    rw [List.getElem?_eq_getElem hk'] at h6
    refine ⟨_, h6, ?_⟩
    have h7 := flat_get (e.pv_len) l (j / e.size) (j % e.size) hi hk
    rw [hjj, List.getElem?_eq_getElem hj] at h7
    have hk2 : j % e.size < (e.pv l[j / e.size]).length := by rw [e.pv_len]; exact hk
    rw [List.getElem?_eq_getElem hk2] at h7
    have h8 := h2.2 _ hk2
    rw [List.getD_eq_getElem?_getD, List.getElem?_eq_getElem hk'] at h8
    rw [Option.some.inj h7]
    exact h8
  refine .sl (fun j => (w.cell? ⟨a.block, a.off + j, none⟩).getD undef) hlc (fun _ => ⟨a.block, a.off, by rw [← ha], hIb, fun j hj => ?_⟩) (fun j hj => ?_) ?_
  · obtain ⟨u, h1, _⟩ := key j hj; rw [h1]; rfl
  · obtain ⟨u, h1, h2⟩ := key j hj; rw [h1]; exact h2
  · intro x hx
    obtain ⟨y, hy, hxy⟩ := List.mem_flatten.1 hx
    obtain ⟨d, _, rfl⟩ := List.mem_map.1 hy
    exact e.pv_one d x hxy

theorem trod_sh (hI : ∀ b, base ≤ b → b < w.heap.size → I b) : ∀ (n : Nat) (t : TypeId) (cs : List Value) (x : DataW H × List MemPlace), DataW.trod enc P w base sp held n t cs = some x →
    ∀ (m : Nat) (s : Sh), shT P m t = some s → ∃ d : s.den, s.ok d ∧ CR ρ I w cs (s.pv d) := by
  intro n
  induction n with
  | zero => intro t cs x h; simp [DataW.trod] at h
  | succ n ih =>
    intro t cs x h m s hs
    cases m with
    | zero => cases hs
    | succ m =>
    rw [DataW.trod_step] at h
    simp only [shT] at hs
    split at hs
    · rename_i hu
      cases hs
      unfold DataW.trodStep at h
      rw [hu] at h
      split at h
      all_goals first | cases h; done | skip
      all_goals first | (rename_i e1 _; cases e1; done) | skip
      all_goals first | exact ⟨_, trivial, CR_one (.bool _)⟩ | (rename_i e1; cases e1; done) | skip
    · rename_i k hu
      cases hs
      unfold DataW.trodStep at h
      rw [hu] at h
      split at h <;> rename_i e1 <;> (try cases e1)
      · split at h
        · rename_i hc
          obtain ⟨rfl, hw⟩ := hc
          simp only [Lit.wf, Bool.and_eq_true, decide_eq_true_eq] at hw
          exact ⟨_, hw, CR_one (.int _ _)⟩
        · cases h
      all_goals cases h
    · rename_i hu
      cases hs
      unfold DataW.trodStep at h
      rw [hu] at h
      split at h <;> rename_i e1 <;> (try cases e1)
      · split at h
        · rename_i hc
          exact ⟨_, hc, CR_one (.str _)⟩
        · cases h
      all_goals cases h
    · rename_i e hu
      split at hs
      · rename_i s1 hs1
        split at hs
        · rename_i hz
          cases hs
          unfold DataW.trodStep at h
          rw [hu] at h
          split at h <;> rename_i e1 <;> (try cases e1)
          · exact ⟨([] : List s1.den), ⟨Nat.zero_le _, fun x hx => by cases hx⟩, CR_one (.sl (fun _ => undef) (Nat.le_refl 0) (fun h => absurd rfl h) (fun j hj => absurd hj (by simp)) (by simp))⟩
          · simp only at h
            split at h
            · rename_i hc
              simp only [Option.map_eq_some_iff, Option.bind_eq_some_iff] at h
              obtain ⟨elems, he, rest, hrest, rfl⟩ := h
              rw [← hz] at he
              obtain ⟨l, h1, h2, h3⟩ := sl_sound (ρ := ρ) (e := s1) hc.2.1 hI fun i hi => by
                have hlen := mapM_some_length he
                have hg := mapM_some_get he i i (by simp [hi])
                have hi' : i < elems.length := by rw [hlen]; simpa using hi
                rw [List.getElem?_eq_getElem hi', Option.bind_eq_some_iff] at hg
                obtain ⟨cs, hcs, hr⟩ := hg
                exact ⟨cs, hcs, ih _ _ _ hr m s1 hs1⟩
              refine ⟨l, ⟨by rw [h1]; omega, h2⟩, ?_⟩
              show CR ρ I w _ [PV.sl l.length (l.map s1.pv).flatten]
              rw [h1]
              exact CR_one h3
            · cases h
          all_goals cases h
        · cases hs
      · cases hs
    · rename_i fs hu
      split at hs
      · rename_i s1 hs1
        split at hs
        · rename_i hz
          cases hs
          unfold DataW.trodStep at h
          rw [hu] at h
          change (if cs.length = P.cellsOf t then (fs.toList.mapM fun f => DataW.trod enc P w base sp held n f.type ((cs.drop f.offset).take (P.cellsOf f.type))).map fun xs => (DataW.agg (xs.map (·.1)), xs.flatMap (·.2)) else none) = some x at h
          split at h
          · rename_i hc
            simp only [Option.map_eq_some_iff] at h
            obtain ⟨xs, hx, rfl⟩ := h
            obtain ⟨d, h1, h2⟩ := shFs_sound (ρ := ρ) (I := I) (w := w) (fun t cs x s hr hsh => ih t cs x hr m s hsh) cs _ _ _ _ hs1 hx
            refine ⟨d, h1, ?_⟩
            rw [List.drop_zero, hz, ← hc, List.take_length] at h2
            exact h2
          · cases h
        · cases hs
      · cases hs
    · cases hs
end
end Go.Ev

/- How the abstract machine's values and heap stand for the machine's, and how one step keeps that. -/
import Derived.Test.YtpdgjdnipkmocaaEvA
import Derived.Below
import Derived.WalkKit
set_option linter.unusedVariables false
set_option linter.unusedSimpArgs false
namespace Go.Ev

inductive VR (ρ : Nat → Option (Nat × Nat)) (I : Nat → Prop) (w : World) : Value → PV → Prop
  | bool (b : Bool) : VR ρ I w (.bool b) (.bool b)
  | int (k : IntKind) (n : Int) : VR ρ I w (.int k n) (.int k n)
  | str (s : ByteArray) : VR ρ I w (.string s) (.str s)
  | sl {A : Option Addr} {n c : Nat} {cs : List PV} (us : Nat → Value) (hn : n ≤ c)
      (hA : cs ≠ [] → ∃ b o, A = some ⟨b, o, none⟩ ∧ I b ∧ ∀ j, j < cs.length → w.cell? ⟨b, o + j, none⟩ = some (us j))
      (hv : ∀ j (hj : j < cs.length), VR ρ I w (us j) cs[j]) (ho : ∀ x ∈ cs, x.one = true) : VR ρ I w (.slice A n c) (.sl n cs)
  | emp {A : Option Addr} : VR ρ I w (.slice A 0 0) .emp
  | rf {z i o n b o' c : Nat} {C : Array Value} {T : TypeId} {f : Nat × Nat} (hρ : ρ i = some (b, o')) (hn : n ≤ c)
      (hw : w.heap[b]? = some (.cells C T f)) (hc : o' + o + c * z ≤ C.size) : VR ρ I w (.slice (some ⟨b, o' + o, none⟩) n c) (.rf z i o n)
  | rf0 {A : Option Addr} {z i o : Nat} : VR ρ I w (.slice A 0 0) (.rf z i o 0)
  | pt {i o b o' : Nat} (hρ : ρ i = some (b, o')) : VR ρ I w (.pointer (some ⟨b, o' + o, none⟩)) (.pt i o)
  | pi {b o : Nat} {cs : List PV} (us : Nat → Value) (hI : I b) (hA : ∀ j, j < cs.length → w.cell? ⟨b, o + j, none⟩ = some (us j))
      (hv : ∀ j (hj : j < cs.length), VR ρ I w (us j) cs[j]) (ho : ∀ x ∈ cs, x.one = true) : VR ρ I w (.pointer (some ⟨b, o, none⟩)) (.pi cs)
  | nilp : VR ρ I w (.pointer none) .nilp
  | mp {i b o : Nat} (hρ : ρ i = some (b, o)) : VR ρ I w (.map (some b)) (.mp i)
  | nilm : VR ρ I w (.map none) .nilm
  | fn {f : Nat} {fs cs : Array Value} {gs ds : List PV} (h1 : fs.size = gs.length) (h2 : cs.size = ds.length)
      (hf : ∀ j (hj : j < gs.length), VR ρ I w (fs.getD j undef) gs[j]) (hc : ∀ j (hj : j < ds.length), VR ρ I w (cs.getD j undef) ds[j]) :
      VR ρ I w (.func (.func f) fs cs) (.fn f gs ds)
  | nilf : VR ρ I w .nilFunc .nilf
  | agg {cs : Array Value} {ds : List PV} (h1 : cs.size = ds.length) (hc : ∀ j (hj : j < ds.length), VR ρ I w (cs.getD j undef) ds[j]) (ho : ∀ x ∈ ds, x.one = true) : VR ρ I w (.agg cs) (.agg ds)
  | tup {cs : Array Value} {ds : List PV} (h1 : cs.size = ds.length) (hc : ∀ j (hj : j < ds.length), VR ρ I w (cs.getD j undef) ds[j]) : VR ρ I w (.tuple cs) (.tup ds)

/-- Lists of values. -/
def VRL (ρ : Nat → Option (Nat × Nat)) (I : Nat → Prop) (w : World) (us : Array Value) (vs : List PV) : Prop :=
  us.size = vs.length ∧ ∀ j (hj : j < vs.length), VR ρ I w (us.getD j undef) vs[j]

/-- What a block of the heap stands for. -/
def BR (ρ : Nat → Option (Nat × Nat)) (I : Nat → Prop) (w : World) (b o : Nat) : Blk → Prop
  | .cells cs => ∃ C T, w.heap[b]? = some (.cells C T (0, 0)) ∧ o + cs.length ≤ C.size ∧ (∀ j (hj : j < cs.length), VR ρ I w (C.getD (o + j) undef) cs[j]) ∧ ∀ x ∈ cs, x.one = true
  | .map es => ∃ M clock, w.heap[b]? = some (.map M clock) ∧ M.size = es.length ∧
      ∀ j (hj : j < es.length) (hj' : j < M.size), VR ρ I w M[j].key es[j].1 ∧ VR ρ I w M[j].val es[j].2

structure SR (ρ : Nat → Option (Nat × Nat)) (I : Nat → Prop) (h : AH) (w : World) : Prop where
  live : ∀ i B, h.blk i = some B → ∃ b o, ρ i = some (b, o) ∧ BR ρ I w b o B
  inj : ∀ i j b o o', h.blk i ≠ none → h.blk j ≠ none → ρ i = some (b, o) → ρ j = some (b, o') → i = j
  apart : ∀ i b o, h.blk i ≠ none → ρ i = some (b, o) → ¬ I b
  nx : ∀ i x, ρ i = some x → i < h.nx
  inI : ∀ b, I b → b < w.heap.size

/-- From one state to a later one: what is kept. -/
structure St (ρ : Nat → Option (Nat × Nat)) (I : Nat → Prop) (h : AH) (w : World) (ρ' : Nat → Option (Nat × Nat)) (I' : Nat → Prop) (h' : AH) (w' : World) : Prop where
  ext : ∀ i x, ρ i = some x → ρ' i = some x
  imm : ∀ b, I b → I' b
  immNew : ∀ b, I' b → I b ∨ w.heap.size ≤ b
  os : w'.os = w.os
  tape : w'.tape = w.tape
  output : w'.output = w.output
  size : w.heap.size ≤ w'.heap.size
  keep : ∀ b, b < w.heap.size → (∀ i o, h.blk i ≠ none → ρ i ≠ some (b, o)) → w'.heap[b]? = w.heap[b]?
  row : ∀ (b : Nat) (C : Array Value) (T : TypeId) (f : Nat × Nat), w.heap[b]? = some (Obj.cells C T f) → ∃ C' : Array Value, w'.heap[b]? = some (Obj.cells C' T f) ∧ C'.size = C.size
  own : ∀ i b o, h'.blk i ≠ none → ρ' i = some (b, o) → w.heap.size ≤ b ∨ ∃ j o', h.blk j ≠ none ∧ ρ j = some (b, o')
  nxle : h.nx ≤ h'.nx
  low : ∀ i x, ρ' i = some x → ρ i = some x ∨ h.nx ≤ i

section
variable {ρ ρ' ρ'' : Nat → Option (Nat × Nat)} {I I' I'' : Nat → Prop} {h h' h'' : AH} {w w' w'' : World} {u : Value} {v : PV}

theorem cell_of_block {b o : Nat} (e : w'.heap[b]? = w.heap[b]?) : w'.cell? ⟨b, o, none⟩ = w.cell? ⟨b, o, none⟩ := by
  simp only [World.cell?, e]

theorem VR.mono (hv : VR ρ I w u v) (hρ : ∀ i x, ρ i = some x → ρ' i = some x) (hI : ∀ b, I b → I' b) (hw : ∀ b, I b → w'.heap[b]? = w.heap[b]?)
    (hr : ∀ (b : Nat) (C : Array Value) (T : TypeId) (f : Nat × Nat), w.heap[b]? = some (Obj.cells C T f) → ∃ C' : Array Value, w'.heap[b]? = some (Obj.cells C' T f) ∧ C'.size = C.size) : VR ρ' I' w' u v := by
  induction hv with
  | bool b => exact .bool b
  | int k n => exact .int k n
  | str s => exact .str s
  | sl us hn hA _ ho ih =>
    refine .sl us hn (fun hne => ?_) ih ho
    obtain ⟨b, o, rfl, hb, hc⟩ := hA hne
    exact ⟨b, o, rfl, hI b hb, fun j hj => by rw [cell_of_block (hw b hb)]; exact hc j hj⟩
  | emp => exact .emp
  | rf h1 hn h2 hc =>
    obtain ⟨C', e, hs⟩ := hr _ _ _ _ h2
    exact .rf (hρ _ _ h1) hn e (by rw [hs]; exact hc)
  | rf0 => exact .rf0
  | pt h1 => exact .pt (hρ _ _ h1)
  | pi us hb hA _ ho ih => exact .pi us (hI _ hb) (fun j hj => by rw [cell_of_block (hw _ hb)]; exact hA j hj) ih ho
  | nilp => exact .nilp
  | mp h1 => exact .mp (hρ _ _ h1)
  | nilm => exact .nilm
  | fn h1 h2 _ _ ih1 ih2 => exact .fn h1 h2 ih1 ih2
  | nilf => exact .nilf
  | agg h1 _ ho ih => exact .agg h1 ih ho
  | tup h1 _ ih => exact .tup h1 ih

theorem St.refl : St ρ I h w ρ I h w where
  ext := fun _ _ e => e
  imm := fun _ e => e
  immNew := fun _ e => .inl e
  os := rfl
  tape := rfl
  output := rfl
  size := Nat.le_refl _
  keep := fun _ _ _ => rfl
  row := fun _ C _ _ e => ⟨C, e, rfl⟩
  own := fun i b o hl e => .inr ⟨i, o, hl, e⟩
  nxle := Nat.le_refl _
  low := fun i x e => .inl e

theorem St.trans (a : St ρ I h w ρ' I' h' w') (b : St ρ' I' h' w' ρ'' I'' h'' w'') : St ρ I h w ρ'' I'' h'' w'' where
  ext := fun i x e => b.ext i x (a.ext i x e)
  imm := fun x e => b.imm x (a.imm x e)
  immNew := fun x e => by
    rcases b.immNew x e with g | g
    · exact a.immNew x g
    · exact .inr (Nat.le_trans a.size g)
  os := b.os.trans a.os
  tape := b.tape.trans a.tape
  output := b.output.trans a.output
  size := Nat.le_trans a.size b.size
  keep := fun x hx hn => by
    rw [b.keep x (Nat.lt_of_lt_of_le hx a.size), a.keep x hx hn]
    intro i o hl e
    rcases a.own i x o hl e with g | ⟨j, o', g, e'⟩
    · omega
    · exact hn j o' g e'
  row := fun x C T f e => by
    obtain ⟨C', e', hs⟩ := a.row x C T f e
    obtain ⟨C'', e'', hs'⟩ := b.row x C' T f e'
    exact ⟨C'', e'', hs'.trans hs⟩
  own := fun i x o hl e => by
    rcases b.own i x o hl e with g | ⟨j, o', g, e'⟩
    · exact .inl (Nat.le_trans a.size g)
    · exact a.own j x o' g e'
  nxle := Nat.le_trans a.nxle b.nxle
  low := fun i x e => by
    rcases b.low i x e with g | g
    · exact a.low i x g
    · exact .inr (Nat.le_trans a.nxle g)

theorem VR.step (hv : VR ρ I w u v) (hs : SR ρ I h w) (st : St ρ I h w ρ' I' h' w') : VR ρ' I' w' u v :=
  hv.mono st.ext st.imm (fun b hb => st.keep b (hs.inI b hb) fun i o hl e => hs.apart i b o hl e hb) st.row

theorem VRL.step {us : Array Value} {vs : List PV} (hv : VRL ρ I w us vs) (hs : SR ρ I h w) (st : St ρ I h w ρ' I' h' w') : VRL ρ' I' w' us vs :=
  ⟨hv.1, fun j hj => (hv.2 j hj).step hs st⟩

/-- Below: what the row asks of old memory, where nothing was owned at the start. -/
theorem St.below (st : St ρ I AH.zero w ρ' I' h' w') : RowKit.Below w.heap.size w w' where
  os := st.os
  tape := st.tape
  output := st.output
  size := st.size
  block := fun k hk => st.keep k hk fun i o hl _ => hl rfl

/-- A world that differs in the number of draws alone. -/
theorem SR.drew (hs : SR ρ I h w) : SR ρ I h w.drew ∧ St ρ I h w ρ I h w.drew := by
  have st : St ρ I h w ρ I h w.drew :=
    { ext := fun _ _ e => e, imm := fun _ e => e, immNew := fun _ e => .inl e, os := rfl, tape := rfl, output := rfl, size := Nat.le_refl _, keep := fun _ _ _ => rfl,
      row := fun _ C _ _ e => ⟨C, e, rfl⟩, own := fun i b o hl e => .inr ⟨i, o, hl, e⟩, nxle := Nat.le_refl _, low := fun i x e => .inl e }
  refine ⟨{ live := fun i B e => ?_, inj := hs.inj, apart := hs.apart, nx := hs.nx, inI := hs.inI }, st⟩
  obtain ⟨b, o, e1, e2⟩ := hs.live i B e
  refine ⟨b, o, e1, ?_⟩
  cases B with
  | cells cs =>
    obtain ⟨C, T, g1, g2, g3⟩ := e2
    exact ⟨C, T, g1, g2, fun j hj => (g3.1 j hj).step hs st, g3.2⟩
  | map es =>
    obtain ⟨M, k, g1, g2, g3⟩ := e2
    exact ⟨M, k, g1, g2, fun j hj hj' => ⟨(g3 j hj hj').1.step hs st, (g3 j hj hj').2.step hs st⟩⟩

theorem BR.step {B : Blk} {b o : Nat} (hB : BR ρ I w b o B) (hs : SR ρ I h w) (st : St ρ I h w ρ' I' h' w') (e : w'.heap[b]? = w.heap[b]?) : BR ρ' I' w' b o B := by
  cases B with
  | cells cs =>
    obtain ⟨C, T, g1, g2, g3⟩ := hB
    exact ⟨C, T, e.trans g1, g2, fun j hj => (g3.1 j hj).step hs st, g3.2⟩
  | map es =>
    obtain ⟨M, k, g1, g2, g3⟩ := hB
    exact ⟨M, k, e.trans g1, g2, fun j hj hj' => ⟨(g3 j hj hj').1.step hs st, (g3 j hj hj').2.step hs st⟩⟩

theorem AH.push_blk (h : AH) (B : Blk) (i : Nat) : (h.push B).blk i = if i = h.nx then some B else h.blk i := rfl
theorem AH.set_blk (h : AH) (j : Nat) (B : Blk) (i : Nat) : (h.set j B).blk i = if i = j then some B else h.blk i := rfl
theorem AH.del_blk (h : AH) (j i : Nat) : (h.del j).blk i = if i = j then none else h.blk i := rfl
theorem AH.push_nx (h : AH) (B : Blk) : (h.push B).nx = h.nx + 1 := rfl

def upd (ρ : Nat → Option (Nat × Nat)) (i : Nat) (x : Nat × Nat) : Nat → Option (Nat × Nat) := fun j => if j = i then some x else ρ j

theorem SR.nxNone (hs : SR ρ I h w) : ρ h.nx = none := by
  cases e : ρ h.nx with
  | none => rfl
  | some x => exact absurd (hs.nx _ _ e) (Nat.lt_irrefl _)

theorem SR.blkNx (hs : SR ρ I h w) {i : Nat} (hl : h.blk i ≠ none) : i < h.nx := by
  cases e : h.blk i with
  | none => exact absurd e hl
  | some B =>
    obtain ⟨b, o, g, _⟩ := hs.live i B e
    exact hs.nx _ _ g

/-- A new block. -/
theorem SR.new (hs : SR ρ I h w) {B : Blk} (hos : w'.os = w.os) (htape : w'.tape = w.tape) (hout : w'.output = w.output) (hsz : w'.heap.size = w.heap.size + 1)
    (hold : ∀ b, b < w.heap.size → w'.heap[b]? = w.heap[b]?) (hB : St ρ I h w (upd ρ h.nx (w.heap.size, 0)) I (h.push B) w' → BR (upd ρ h.nx (w.heap.size, 0)) I w' w.heap.size 0 B) :
    SR (upd ρ h.nx (w.heap.size, 0)) I (h.push B) w' ∧ St ρ I h w (upd ρ h.nx (w.heap.size, 0)) I (h.push B) w' := by
  have hb : ∀ i x, ρ i = some x → x.1 < w.heap.size ∨ h.blk i = none := by
    intro i x e
    cases e' : h.blk i with
    | none => exact .inr rfl
    | some B' =>
      obtain ⟨b, o, g, hB'⟩ := hs.live i B' e'
      rw [e] at g
      cases g
      left
      have : w.heap[b]? ≠ none := by
        cases B' <;> (obtain ⟨_, _, g, _⟩ := hB'; rw [g]; simp)
      rcases Nat.lt_or_ge b w.heap.size with q | q
      · exact q
      · exact absurd (Array.getElem?_eq_none q) this
  have hlt : ∀ i, h.blk i ≠ none → i ≠ h.nx := fun i hl e => Nat.lt_irrefl _ (e ▸ hs.blkNx hl)
  have st : St ρ I h w (upd ρ h.nx (w.heap.size, 0)) I (h.push B) w' :=
    { ext := fun i x e => by
        have : i ≠ h.nx := fun e' => by rw [e', hs.nxNone] at e; cases e
        simp [upd, this, e]
      imm := fun _ e => e, immNew := fun _ e => .inl e, os := hos, tape := htape, output := hout, size := by omega
      keep := fun b hb _ => hold b hb
      row := fun b C T f e => by
        have : b < w.heap.size := by
          rcases Nat.lt_or_ge b w.heap.size with q | q
          · exact q
          · rw [Array.getElem?_eq_none q] at e; cases e
        exact ⟨C, (hold b this).trans e, rfl⟩
      own := fun i b o hl e => by
        by_cases hi : i = h.nx
        · simp [upd, hi] at e; left; omega
        · simp only [upd, hi, if_false] at e
          rw [AH.push_blk, if_neg hi] at hl
          exact .inr ⟨i, o, hl, e⟩
      nxle := Nat.le_succ _
      low := fun i x e => by
        by_cases hi : i = h.nx
        · right; omega
        · simp only [upd, hi, if_false] at e; exact .inl e }
  refine ⟨{ live := fun i B' e => ?_, inj := fun i j b o o' hi hj ei ej => ?_, apart := fun i b o hi ei => ?_, nx := fun i x e => ?_, inI := fun b e => by have := hs.inI b e; omega }, st⟩
  · by_cases hi : i = h.nx
    · subst hi
      rw [AH.push_blk, if_pos rfl] at e
      cases e
      exact ⟨w.heap.size, 0, by simp [upd], hB st⟩
    · rw [AH.push_blk, if_neg hi] at e
      obtain ⟨b, o, g, hB'⟩ := hs.live i B' e
      refine ⟨b, o, by simp [upd, hi, g], hB'.step hs st (hold b ?_)⟩
      rcases hb i _ g with q | q
      · exact q
      · rw [q] at e; cases e
  · by_cases hi' : i = h.nx <;> by_cases hj' : j = h.nx
    · omega
    · rw [AH.push_blk, if_neg hj'] at hj
      simp [upd, hi'] at ei
      simp [upd, hj'] at ej
      rcases hb j _ ej with q | q
      · simp at q; omega
      · exact absurd q hj
    · rw [AH.push_blk, if_neg hi'] at hi
      simp [upd, hj'] at ej
      simp [upd, hi'] at ei
      rcases hb i _ ei with q | q
      · simp at q; omega
      · exact absurd q hi
    · rw [AH.push_blk, if_neg hi'] at hi
      rw [AH.push_blk, if_neg hj'] at hj
      simp [upd, hi'] at ei
      simp [upd, hj'] at ej
      exact hs.inj i j b o o' hi hj ei ej
  · by_cases hi' : i = h.nx
    · simp [upd, hi'] at ei
      intro hI
      have := hs.inI b hI
      omega
    · rw [AH.push_blk, if_neg hi'] at hi
      simp [upd, hi'] at ei
      exact hs.apart i b o hi ei
  · by_cases hi' : i = h.nx
    · rw [AH.push_nx]; omega
    · simp [upd, hi'] at e
      have := hs.nx i x e
      rw [AH.push_nx]; omega

/-- An own block is written. -/
theorem SR.wrote (hs : SR ρ I h w) {i b o : Nat} {B : Blk} (hl : h.blk i ≠ none) (hi : ρ i = some (b, o)) (hos : w'.os = w.os) (htape : w'.tape = w.tape) (hout : w'.output = w.output)
    (hsz : w'.heap.size = w.heap.size) (hold : ∀ k, k ≠ b → w'.heap[k]? = w.heap[k]?)
    (hrow : ∀ (C : Array Value) (T : TypeId) (f : Nat × Nat), w.heap[b]? = some (Obj.cells C T f) → ∃ C' : Array Value, w'.heap[b]? = some (Obj.cells C' T f) ∧ C'.size = C.size)
    (hB : St ρ I h w ρ I (h.set i B) w' → BR ρ I w' b o B) : SR ρ I (h.set i B) w' ∧ St ρ I h w ρ I (h.set i B) w' := by
  have st : St ρ I h w ρ I (h.set i B) w' :=
    { ext := fun _ _ e => e, imm := fun _ e => e, immNew := fun _ e => .inl e, os := hos, tape := htape, output := hout, size := by omega
      keep := fun k _ hn => hold k fun e => hn i o hl (e ▸ hi)
      row := fun k C T f e => by
        by_cases hk : k = b
        · subst hk; exact hrow C T f e
        · exact ⟨C, (hold k hk).trans e, rfl⟩
      own := fun j k o' hl' e => by
        by_cases hj : j = i
        · subst hj; rw [hi] at e; cases e; exact .inr ⟨j, o, hl, hi⟩
        · rw [AH.set_blk, if_neg hj] at hl'; exact .inr ⟨j, o', hl', e⟩
      nxle := Nat.le_refl _
      low := fun i x e => .inl e }
  have live' : ∀ j, (h.set i B).blk j ≠ none → h.blk j ≠ none := fun j hj => by
    by_cases e : j = i
    · subst e; exact hl
    · rwa [AH.set_blk, if_neg e] at hj
  refine ⟨{ live := fun j B' e => ?_, inj := fun j k x o1 o2 h1 h2 e1 e2 => hs.inj j k x o1 o2 (live' j h1) (live' k h2) e1 e2, apart := fun j x o1 h1 e1 => hs.apart j x o1 (live' j h1) e1, nx := hs.nx,
            inI := fun x e => by have := hs.inI x e; omega }, st⟩
  by_cases hj : j = i
  · subst hj
    rw [AH.set_blk, if_pos rfl] at e
    cases e
    exact ⟨b, o, hi, hB st⟩
  · rw [AH.set_blk, if_neg hj] at e
    obtain ⟨b', o', g, hB'⟩ := hs.live j B' e
    refine ⟨b', o', g, hB'.step hs st (hold b' fun e' => ?_)⟩
    subst e'
    exact hj (hs.inj j i b' o' o (by rw [e]; simp) hl g hi)

/-- A block is given up. -/
theorem SR.gone (hs : SR ρ I h w) (i : Nat) : SR ρ I (h.del i) w ∧ St ρ I h w ρ I (h.del i) w := by
  have live' : ∀ j, (h.del i).blk j ≠ none → h.blk j ≠ none := fun j hj => by
    by_cases e : j = i
    · rw [AH.del_blk, if_pos e] at hj; exact absurd rfl hj
    · rwa [AH.del_blk, if_neg e] at hj
  refine ⟨{ live := fun j B' e => ?_, inj := fun j k x o1 o2 h1 h2 e1 e2 => hs.inj j k x o1 o2 (live' j h1) (live' k h2) e1 e2, apart := fun j x o1 h1 e1 => hs.apart j x o1 (live' j h1) e1, nx := hs.nx, inI := hs.inI },
    { ext := fun _ _ e => e, imm := fun _ e => e, immNew := fun _ e => .inl e, os := rfl, tape := rfl, output := rfl, size := Nat.le_refl _, keep := fun _ _ _ => rfl, row := fun _ C _ _ e => ⟨C, e, rfl⟩,
      own := fun j k o' hl' e => .inr ⟨j, o', live' j hl', e⟩, nxle := Nat.le_refl _, low := fun i x e => .inl e }⟩
  by_cases hj : j = i
  · rw [AH.del_blk, if_pos hj] at e; cases e
  · rw [AH.del_blk, if_neg hj] at e; exact hs.live j B' e

/-- New memory that nobody owns. -/
theorem SR.grow (hs : SR ρ I h w) (hos : w'.os = w.os) (htape : w'.tape = w.tape) (hout : w'.output = w.output) (hsz : w.heap.size ≤ w'.heap.size)
    (hold : ∀ b, b < w.heap.size → w'.heap[b]? = w.heap[b]?) (h1 : ∀ b, I b → I' b) (h2 : ∀ b, I' b → I b ∨ w.heap.size ≤ b) (h3 : ∀ b, I' b → b < w'.heap.size) :
    SR ρ I' h w' ∧ St ρ I h w ρ I' h w' := by
  have hb : ∀ (i : Nat) (B : Blk) (b o : Nat), h.blk i = some B → ρ i = some (b, o) → b < w.heap.size := by
    intro i B b o e g
    obtain ⟨b2, o2, g2, hB⟩ := hs.live i B e
    rw [g] at g2
    cases g2
    have : w.heap[b]? ≠ none := by
      cases B <;> (obtain ⟨_, _, g, _⟩ := hB; rw [g]; simp)
    rcases Nat.lt_or_ge b w.heap.size with q | q
    · exact q
    · exact absurd (Array.getElem?_eq_none q) this
  have st : St ρ I h w ρ I' h w' :=
    { ext := fun _ _ e => e, imm := h1, immNew := h2, os := hos, tape := htape, output := hout, size := hsz
      keep := fun b hb _ => hold b hb
      row := fun b C T f e => by
        have : b < w.heap.size := by
          rcases Nat.lt_or_ge b w.heap.size with q | q
          · exact q
          · rw [Array.getElem?_eq_none q] at e; cases e
        exact ⟨C, (hold b this).trans e, rfl⟩
      own := fun i b o hl e => .inr ⟨i, o, hl, e⟩, nxle := Nat.le_refl _, low := fun i x e => .inl e }
  refine ⟨{ live := fun i B e => ?_, inj := hs.inj, apart := fun i b o hl e hI => ?_, nx := hs.nx, inI := h3 }, st⟩
  · obtain ⟨b, o, g, hB⟩ := hs.live i B e
    exact ⟨b, o, g, hB.step hs st (hold b (hb i B b o e g))⟩
  · rcases h2 b hI with q | q
    · exact hs.apart i b o hl e q
    · cases e' : h.blk i with
      | none => exact hl e'
      | some B => have := hb i B b o e' e; omega

/-- A block goes on under a new number, from cell 'o' on. -/
theorem SR.moved (hs : SR ρ I h w) {i b o' o n : Nat} {cs : List PV} (hr : h.blk i = some (.cells cs)) (hi : ρ i = some (b, o')) (ho : o ≤ cs.length) :
    SR (upd ρ h.nx (b, o' + o)) I ((h.del i).push (.cells ((cs.drop o).take n))) w ∧ St ρ I h w (upd ρ h.nx (b, o' + o)) I ((h.del i).push (.cells ((cs.drop o).take n))) w := by
  have hl : h.blk i ≠ none := by rw [hr]; simp
  have hne : i ≠ h.nx := fun e => Nat.lt_irrefl _ (e ▸ hs.blkNx hl)
  have hnx : (h.del i).nx = h.nx := rfl
  have blk' : ∀ j, ((h.del i).push (.cells ((cs.drop o).take n))).blk j = if j = h.nx then some (.cells ((cs.drop o).take n)) else if j = i then none else h.blk j := fun j => rfl
  have st : St ρ I h w (upd ρ h.nx (b, o' + o)) I ((h.del i).push (.cells ((cs.drop o).take n))) w :=
    { ext := fun j x e => by
        have : j ≠ h.nx := fun e' => by rw [e', hs.nxNone] at e; cases e
        simp [upd, this, e]
      imm := fun _ e => e, immNew := fun _ e => .inl e, os := rfl, tape := rfl, output := rfl, size := Nat.le_refl _, keep := fun _ _ _ => rfl, row := fun _ C _ _ e => ⟨C, e, rfl⟩
      own := fun j k o1 hl' e => by
        by_cases hj : j = h.nx
        · simp [upd, hj] at e
          obtain ⟨rfl, _⟩ := e
          exact .inr ⟨i, o', hl, hi⟩
        · simp [upd, hj] at e
          rw [blk', if_neg hj] at hl'
          by_cases hj' : j = i
          · rw [if_pos hj'] at hl'; exact absurd rfl hl'
          · rw [if_neg hj'] at hl'; exact .inr ⟨j, o1, hl', e⟩
      nxle := Nat.le_succ _
      low := fun j x e => by
        by_cases hj : j = h.nx
        · right; omega
        · simp only [upd, hj, if_false] at e; exact .inl e }
  refine ⟨{ live := fun j B' e => ?_, inj := fun j k x o1 o2 h1 h2 e1 e2 => ?_, apart := fun j x o1 h1 e1 => ?_, nx := fun j x e => ?_, inI := hs.inI }, st⟩
  · rw [blk'] at e
    by_cases hj : j = h.nx
    · rw [if_pos hj] at e
      cases e
      refine ⟨b, o' + o, by simp [upd, hj], ?_⟩
      obtain ⟨b2, o2, g, hB⟩ := hs.live i _ hr
      rw [hi] at g
      cases g
      obtain ⟨C, T, g1, g2, g3⟩ := hB
      refine ⟨C, T, g1, by simp only [List.length_take, List.length_drop]; omega, fun k hk => ?_, fun x hx => g3.2 x (List.mem_of_mem_drop (List.mem_of_mem_take hx))⟩
      simp only [List.length_take, List.length_drop] at hk
      have := (g3.1 (o + k) (by omega)).step hs st
      rw [List.getElem_take, List.getElem_drop, Nat.add_assoc]
      exact this
    · rw [if_neg hj] at e
      by_cases hj' : j = i
      · rw [if_pos hj'] at e; cases e
      · rw [if_neg hj'] at e
        obtain ⟨b2, o2, g, hB⟩ := hs.live j _ e
        exact ⟨b2, o2, by simp [upd, hj, g], hB.step hs st rfl⟩
  · have f : ∀ j x o1, ((h.del i).push (.cells ((cs.drop o).take n))).blk j ≠ none → upd ρ h.nx (b, o' + o) j = some (x, o1) → (j = h.nx ∧ x = b) ∨ (j ≠ h.nx ∧ j ≠ i ∧ h.blk j ≠ none ∧ ρ j = some (x, o1)) := by
      intro j x o1 hl' e
      rw [blk'] at hl'
      by_cases hj : j = h.nx
      · simp [upd, hj] at e; exact .inl ⟨hj, e.1.symm⟩
      · simp [upd, hj] at e
        rw [if_neg hj] at hl'
        by_cases hj' : j = i
        · rw [if_pos hj'] at hl'; exact absurd rfl hl'
        · rw [if_neg hj'] at hl'; exact .inr ⟨hj, hj', hl', e⟩
    rcases f j x o1 h1 e1 with ⟨a1, a2⟩ | ⟨a1, a2, a3, a4⟩ <;> rcases f k x o2 h2 e2 with ⟨b1, b2⟩ | ⟨b1, b2, b3, b4⟩
    · omega
    · subst a2; exact absurd (hs.inj k i _ _ _ b3 hl b4 hi) b2
    · subst b2; exact absurd (hs.inj j i _ _ _ a3 hl a4 hi) a2
    · exact hs.inj j k x o1 o2 a3 b3 a4 b4
  · rw [blk'] at h1
    by_cases hj : j = h.nx
    · simp [upd, hj] at e1
      obtain ⟨rfl, _⟩ := e1
      exact hs.apart i b o' hl hi
    · simp [upd, hj] at e1
      rw [if_neg hj] at h1
      by_cases hj' : j = i
      · rw [if_pos hj'] at h1; exact absurd rfl h1
      · rw [if_neg hj'] at h1; exact hs.apart j x o1 h1 e1
  · show j < h.nx + 1
    by_cases hj : j = h.nx
    · omega
    · simp [upd, hj] at e; have := hs.nx j x e; omega

end
end Go.Ev

/- Each operation of the abstract machine stands for the machine's own: new memory, stores. -/
import Derived.Test.YtpdgjdnipkmocaaEvF
set_option linter.unusedVariables false
set_option linter.unusedSimpArgs false
namespace Go.Ev
section
variable {P : Program} {ρ : Nat → Option (Nat × Nat)} {I : Nat → Prop} {h : AH} {w : World} {nt : Nat} {a : Act} {s : Fr} {u u' : Value} {v X Y : PV}

theorem heap_alloc_new (w : World) (o : Obj) : (w.alloc o).heap[w.heap.size]? = some o := by
  show (w.heap.push o)[w.heap.size]? = some o
  simp

theorem SR.alloc (hs : SR ρ I h w) {C : Array Value} {T : TypeId} {cs : List PV} (hl : cs.length ≤ C.size) (hv : ∀ j (hj : j < cs.length), VR ρ I w (C.getD j undef) cs[j]) (ho : ∀ x ∈ cs, x.one = true) :
    SR (upd ρ h.nx (w.heap.size, 0)) I (h.push (.cells cs)) (w.alloc (.cells C T)) ∧ St ρ I h w (upd ρ h.nx (w.heap.size, 0)) I (h.push (.cells cs)) (w.alloc (.cells C T)) :=
  hs.new rfl rfl rfl (World.size_alloc _ _) (fun b hb => RowKit.Below.heap_alloc _ _ _ hb) fun st =>
    ⟨C, T, heap_alloc_new _ _, by omega, fun j hj => by rw [Nat.zero_add]; exact (hv j hj).step hs st, ho⟩

/-- New immutable memory. -/
theorem SR.allocI (hs : SR ρ I h w) (o : Obj) :
    SR ρ (fun b => I b ∨ b = w.heap.size) h (w.alloc o) ∧ St ρ I h w ρ (fun b => I b ∨ b = w.heap.size) h (w.alloc o) :=
  hs.grow rfl rfl rfl (by simp) (fun b hb => RowKit.Below.heap_alloc _ _ _ hb) (fun b e => .inl e) (fun b e => e.imp id fun e => by omega) (fun b e => by
    rcases e with e | e
    · have := hs.inI b e; simp; omega
    · simp; omega)

theorem VR.cells (hv : VR ρ I w u X) (hk : X.okc = true) : u.cells.size = X.cells.length ∧ (∀ j (hj : j < X.cells.length), VR ρ I w (u.cells.getD j Go.undef) X.cells[j]) ∧ ∀ x ∈ X.cells, x.one = true := by
  cases hv with
  | agg h1 hc ho => exact ⟨h1, hc, ho⟩
  | tup _ _ => cases hk
  | _ =>
    refine ⟨rfl, fun j hj => ?_, fun x hx => by simp [PV.cells] at hx; subst hx; rfl⟩
    have : j = 0 := by simp [PV.cells] at hj; exact hj
    subst this
    constructor <;> assumption

theorem VR.one (hv : VR ρ I w u X) (h1 : X.one = true) : u.oneCell' = true := by
  cases hv <;> first | rfl | (simp [PV.one] at h1)

theorem box_out {T : TypeId} (hs : SR ρ I h w) (hv : VR ρ I w u X) (hk : X.okc = true) : Out ρ I h w (.pt h.nx 0) (h.push (.cells X.cells)) ((do pure (Next.value (← Instr.box T u)) : Sem Next).run P w) := by
  obtain ⟨h1, h2, h3⟩ := hv.cells hk
  obtain ⟨g1, g2⟩ := hs.alloc (T := T) (C := u.cells) (cs := X.cells) (by omega) h2 h3
  refine ⟨.pointer (some ⟨w.heap.size, 0, none⟩), w.alloc (.cells u.cells T), _, _, .inl ?_, g2, g1, ?_⟩
  · simp [Instr.box, newVar, newRow]
  · have : VR (upd ρ h.nx (w.heap.size, 0)) I (w.alloc (.cells u.cells T)) (.pointer (some ⟨w.heap.size, 0 + 0, none⟩)) (.pt h.nx 0) := .pt (by simp [upd])
    simpa using this

theorem boxi_out {T : TypeId} (hs : SR ρ I h w) (hv : VR ρ I w u X) (hk : X.okc = true) : Out ρ I h w (.pi X.cells) h ((do pure (Next.value (← Instr.box T u)) : Sem Next).run P w) := by
  obtain ⟨h1, h2, h3⟩ := hv.cells hk
  obtain ⟨g1, g2⟩ := hs.allocI (.cells u.cells T)
  refine ⟨.pointer (some ⟨w.heap.size, 0, none⟩), w.alloc (.cells u.cells T), _, _, .inl ?_, g2, g1, ?_⟩
  · simp [Instr.box, newVar, newRow]
  · exact .pi (fun j => u.cells.getD j undef) (.inr rfl) (fun j hj => by
      rw [Nat.zero_add, World.cell?_alloc_new]
      simp [Array.getD, show j < u.cells.size by omega]) (fun j hj => (h2 j hj).step hs g2) h3

theorem alloc_out {T : TypeId} {z : Value} {zs : List PV} (hs : SR ρ I h w) (hz : zeroT P T = some z) (hc : cstCells z.cells.toList = some zs) :
    Out ρ I h w (.pt h.nx 0) (h.push (.cells zs)) ((do pure (Next.value (← Instr.alloc T true (.tuple #[]))) : Sem Next).run P w) := by
  obtain ⟨h1, h2⟩ := cstCells_vr (ρ := ρ) (I := I) (w := w) _ _ hc
  obtain ⟨g1, g2⟩ := hs.alloc (T := T) (C := z.cells) (cs := zs) (by simpa using Nat.le_of_eq h1.symm) (fun j hj => by have := h2 j hj; simpa [Array.getD_eq_getD_getElem?] using this) (cstCells_one _ _ hc)
  refine ⟨.pointer (some ⟨w.heap.size, 0, none⟩), w.alloc (.cells z.cells T), _, _, .inl ?_, g2, g1, ?_⟩
  · simp [Instr.alloc, run_zeroValue hz, newVar, newRow]
  · have : VR (upd ρ h.nx (w.heap.size, 0)) I (w.alloc (.cells z.cells T)) (.pointer (some ⟨w.heap.size, 0 + 0, none⟩)) (.pt h.nx 0) := .pt (by simp [upd])
    simpa using this

/- Lists of cells, one part put in. -/
theorem splice_len {cs ys : List PV} {o : Nat} (hl : o + ys.length ≤ cs.length) : (splice cs o ys).length = cs.length := by
  simp [splice]; omega

theorem splice_get (cs ys : List PV) (o j : Nat) (ho : o ≤ cs.length) : (splice cs o ys)[j]? = if j < o then cs[j]? else if j < o + ys.length then ys[j - o]? else cs[j]? := by
  unfold splice
  simp only [List.append_assoc, List.getElem?_append, List.getElem?_take, List.length_take, List.getElem?_drop]
  by_cases h1 : j < o
  · simp [h1, Nat.min_eq_left ho]
  · rw [if_neg (by rw [Nat.min_eq_left ho]; exact h1), if_neg h1]
    rw [Nat.min_eq_left ho]
    by_cases h2 : j < o + ys.length
    · rw [if_pos (by omega), if_pos h2]
    · rw [if_neg (by omega), if_neg h2]
      congr 1
      omega

theorem row_get (C vs : List Value) (o j : Nat) (ho : o ≤ C.length) :
    (C.take o ++ vs ++ C.drop (o + vs.length))[j]? = if j < o then C[j]? else if j < o + vs.length then vs[j - o]? else C[j]? := by
  simp only [List.append_assoc, List.getElem?_append, List.getElem?_take, List.length_take, List.getElem?_drop]
  by_cases h1 : j < o
  · simp [h1, Nat.min_eq_left ho]
  · rw [if_neg (by rw [Nat.min_eq_left ho]; exact h1), if_neg h1]
    rw [Nat.min_eq_left ho]
    by_cases h2 : j < o + vs.length
    · rw [if_pos (by omega), if_pos h2]
    · rw [if_neg (by omega), if_neg h2]
      congr 1
      omega

theorem getD_of_some {C : Array Value} {j : Nat} {x : Value} (e : C[j]? = some x) : C.getD j undef = x := by
  simp [Array.getD_eq_getD_getElem?, e]

/-- A store of some cells into an own block. -/
theorem write_ok (hs : SR ρ I h w) {i b o' k : Nat} {cs ds : List PV} {vs : List Value} {C : Array Value} {T : TypeId} (hb : h.blk i = some (.cells cs)) (hi : ρ i = some (b, o')) (hg : w.heap[b]? = some (.cells C T (0, 0)))
    (hk : k ≤ cs.length) (hl : vs.length = ds.length) (hfit : o' + k + vs.length ≤ C.size) (hv : ∀ j (hj : j < ds.length), VR ρ I w (vs.getD j undef) ds[j]) (ho : ∀ x ∈ ds, x.one = true) :
    ∃ w', (storeCells ⟨b, o' + k, none⟩ vs).run P w = .ok () w' ∧ SR ρ I (h.set i (.cells (splice cs k ds))) w' ∧ St ρ I h w ρ I (h.set i (.cells (splice cs k ds))) w' := by
  obtain ⟨b2, o2, g2, hB⟩ := hs.live i _ hb
  rw [hi] at g2
  cases g2
  obtain ⟨C2, T2, e1, e2, e3, e4⟩ := hB
  rw [hg] at e1
  cases e1
  have h1 : ∀ x ∈ vs, x.oneCell' = true := by
    intro x hx
    obtain ⟨j, hj, rfl⟩ := List.mem_iff_getElem.1 hx
    have := hv j (by omega)
    have e : vs.getD j undef = vs[j] := by simp [List.getD, List.getElem?_eq_getElem hj]
    rw [e] at this
    exact this.one (ho _ (List.getElem_mem _))
  have hrun := run_storeCells_at P b (o' + k) T vs 0 C w hg (by omega) h1
  simp only [Nat.add_zero] at hrun
  generalize hL : (C.toList.take (o' + k) ++ vs ++ C.toList.drop (o' + k + vs.length)) = L at hrun
  have hLsz : L.length = C.size := by rw [← hL]; simp; omega
  refine ⟨_, hrun, hs.wrote (by rw [hb]; simp) hi rfl rfl rfl (by simp) (fun q hq => setRow_other _ _ _ _ hq) (fun C' T' f e => ?_) fun st => ?_⟩
  · rw [hg] at e
    cases e
    exact ⟨L.toArray, setRow_heap w b C _ T _ hg, by simpa using hLsz⟩
  · refine ⟨L.toArray, T, setRow_heap w b C _ T _ hg, ?_, fun j hj => ?_, fun x hx => ?_⟩
    rotate_left 2
    · simp only [splice, List.append_assoc, List.mem_append] at hx
      rcases hx with hx | hx | hx
      · exact e4 x (List.mem_of_mem_take hx)
      · exact ho x hx
      · exact e4 x (List.mem_of_mem_drop hx)
    · simp only [splice, List.length_append, List.length_take, List.length_drop]
      simp only [List.size_toArray, hLsz]
      omega
    · have hj' : (splice cs k ds)[j]? = some (splice cs k ds)[j] := List.getElem?_eq_getElem hj
      have hget : L.toArray[o' + j]? = L[o' + j]? := by simp
      have hLj : L[o' + j]? = if o' + j < o' + k then C.toList[o' + j]? else if o' + j < o' + k + vs.length then vs[o' + j - (o' + k)]? else C.toList[o' + j]? := by
        rw [← hL]; exact row_get _ _ _ _ (by simp; omega)
      have hsp := splice_get cs ds k j hk
      rw [hj'] at hsp
      generalize (splice cs k ds)[j] = d at hj' hsp
      by_cases q1 : j < k
      · rw [if_pos q1] at hsp
        rw [if_pos (by omega)] at hLj
        have hlt : j < cs.length := by omega
        rw [List.getElem?_eq_getElem hlt] at hsp
        cases hsp
        have := (e3 j hlt).step hs st
        have hc : C[o' + j]? = some (C.getD (o' + j) undef) := by simp [Array.getD, show o' + j < C.size by omega]
        rw [getD_of_some (x := C.getD (o' + j) undef) (by rw [hget, hLj, Array.getElem?_toList]; exact hc)]
        exact this
      · rw [if_neg q1] at hsp
        rw [if_neg (by omega)] at hLj
        by_cases q2 : j < k + ds.length
        · rw [if_pos q2] at hsp
          rw [if_pos (by omega)] at hLj
          have hlt : j - k < ds.length := by omega
          rw [List.getElem?_eq_getElem hlt] at hsp
          cases hsp
          have := (hv (j - k) hlt).step hs st
          have hc : vs[o' + j - (o' + k)]? = some (vs.getD (j - k) undef) := by
            rw [show o' + j - (o' + k) = j - k by omega]
            simp [List.getD, List.getElem?_eq_getElem (show j - k < vs.length by omega)]
          rw [getD_of_some (x := vs.getD (j - k) undef) (by rw [hget, hLj]; exact hc)]
          exact this
        · rw [if_neg q2] at hsp
          rw [if_neg (by omega)] at hLj
          have hlt : j < cs.length := by
            rcases Nat.lt_or_ge j cs.length with q | q
            · exact q
            · rw [List.getElem?_eq_none q] at hsp; cases hsp
          rw [List.getElem?_eq_getElem hlt] at hsp
          cases hsp
          have := (e3 j hlt).step hs st
          have hc : C[o' + j]? = some (C.getD (o' + j) undef) := by simp [Array.getD, show o' + j < C.size by omega]
          rw [getD_of_some (x := C.getD (o' + j) undef) (by rw [hget, hLj, Array.getElem?_toList]; exact hc)]
          exact this

theorem row_blk {i : Nat} {cs : List PV} (e : h.row i = some cs) : h.blk i = some (.cells cs) := by
  unfold AH.row at e
  split at e
  · rename_i cs' hb; cases e; exact hb
  · cases e

theorem own_row (hs : SR ρ I h w) {i b o : Nat} {cs : List PV} (hb : h.blk i = some (.cells cs)) (hi : ρ i = some (b, o)) :
    ∃ C T, w.heap[b]? = some (.cells C T (0, 0)) ∧ o + cs.length ≤ C.size ∧ (∀ j (hj : j < cs.length), VR ρ I w (C.getD (o + j) undef) cs[j]) ∧ ∀ x ∈ cs, x.one = true := by
  obtain ⟨b2, o2, g2, hB⟩ := hs.live i _ hb
  rw [hi] at g2
  cases g2
  exact hB

theorem set_splice {cs : List PV} {o : Nat} {x : PV} (ho : o < cs.length) : cs.set o x = splice cs o [x] := by
  apply List.ext_getElem?
  intro j
  rw [splice_get _ _ _ _ (by omega), List.getElem?_set]
  simp only [List.length_singleton]
  by_cases h1 : o = j
  · subst h1; simp [ho]
  · by_cases h2 : j < o
    · simp [h1, h2]
    · rw [if_neg h1, if_neg h2, if_neg (by omega)]

theorem store_ok {t : TypeId} {n : Nat} {h' : AH} (hs : SR ρ I h w) (hn : szT P t = some n) (hp : VR ρ I w u X) (hx : VR ρ I w u' Y) (e : wr h X Y n = some h') :
    ∃ w', (Instr.storeAt t u u').run P w = .ok () w' ∧ SR ρ I h' w' ∧ St ρ I h w ρ I h' w' := by
  cases X with
  | pt i o =>
    simp only [wr] at e
    cases hr : h.row i with
    | none => simp [hr] at e
    | some cs =>
      simp only [hr] at e
      cases hp with
      | pt hρ =>
        rename_i b o'
        have hb := row_blk hr
        obtain ⟨C, T, g1, g2, g3⟩ := own_row hs hb hρ
        have hone : ∀ z : PV, Y = z → z.one = true → (if n = 1 ∧ o < cs.length then some (h.set i (.cells (cs.set o z))) else none) = some h' →
            ∃ w', (Instr.storeAt t (.pointer (some ⟨b, o' + o, none⟩)) u').run P w = .ok () w' ∧ SR ρ I h' w' ∧ St ρ I h w ρ I h' w' := by
          intro z hz h1 eq
          subst hz
          split at eq
          · rename_i hc
            obtain ⟨rfl, hlt⟩ := hc
            cases eq
            have hone' := hx.one h1
            have hcells : u'.cells = #[u'] := by cases u' <;> first | rfl | (simp [Value.oneCell'] at hone')
            obtain ⟨w', e1, e2, e3⟩ := write_ok (P := P) (k := o) (ds := [Y]) (vs := [u']) hs hb hρ g1 (by omega) rfl (by simp; omega)
              (fun j hj => by have : j = 0 := by simp at hj; exact hj
                              subst this; simpa using hx) (by simpa using h1)
            rw [← set_splice hlt] at e2 e3
            exact ⟨w', by simp [Instr.storeAt, Instr.sureAddr, storeVar, run_sizeOf hn, hcells, e1], e2, e3⟩
          · cases eq
        cases Y with
        | agg ys =>
          simp only at e
          split at e
          · rename_i hc
            obtain ⟨h1, h2⟩ := hc
            cases e
            cases hx with
            | agg h4 h5 h6 =>
              rename_i D
              obtain ⟨w', e1, e2, e3⟩ := write_ok (P := P) (k := o) (ds := ys) (vs := D.toList) hs hb hρ g1 (by omega) (by simpa using h4) (by simp; omega)
                (fun j hj => by have := h5 j hj; simpa [Array.getD_eq_getD_getElem?] using this)
                h6
              exact ⟨w', by simp [Instr.storeAt, Instr.sureAddr, storeVar, run_sizeOf hn, Value.cells, show D.size = n by omega, e1], e2, e3⟩
          · cases e
        | tup vs => simp at e
        | _ => exact hone _ rfl rfl e
  | _ => simp [wr] at e
end
end Go.Ev

/- Each operation of the abstract machine stands for the machine's own: composite values, made slices, appends, copies. -/
import Derived.Test.YtpdgjdnipkmocaaEvG
set_option linter.unusedVariables false
set_option linter.unusedSimpArgs false
namespace Go.Ev
section
variable {P : Program} {ρ : Nat → Option (Nat × Nat)} {I : Nat → Prop} {h : AH} {w : World} {nt : Nat} {a : Act} {s : Fr} {u u' : Value} {v X Y : PV}

/-- Arrays and lists that stand for each other. -/
def VRA (ρ : Nat → Option (Nat × Nat)) (I : Nat → Prop) (w : World) (C : Array Value) (cs : List PV) : Prop :=
  C.size = cs.length ∧ (∀ j (hj : j < cs.length), VR ρ I w (C.getD j undef) cs[j]) ∧ ∀ x ∈ cs, x.one = true

theorem foldl_set (vs : List Value) : ∀ (k off : Nat) (C : Array Value), off + k + vs.length ≤ C.size →
    (vs.zipIdx k).foldl (fun cs (p : Value × Nat) => cs.setIfInBounds (off + p.2) p.1) C = (C.toList.take (off + k) ++ vs ++ C.toList.drop (off + k + vs.length)).toArray := by
  induction vs with
  | nil => intro k off C hl; simp
  | cons x vs ih =>
    intro k off C hl
    simp only [List.length_cons] at hl
    rw [List.zipIdx_cons, List.foldl_cons, ih (k + 1) off (C.setIfInBounds (off + k) x) (by simp; omega)]
    have e := list_seg_step C.toList (off + k) x vs (by simp; omega)
    simpa [Array.toList_setIfInBounds, Nat.add_assoc] using e

theorem VRA.splice {C : Array Value} {cs ds : List PV} {vs : List Value} {o : Nat} (hC : VRA ρ I w C cs) (hl : vs.length = ds.length) (ho : o + ds.length ≤ cs.length)
    (hv : ∀ j (hj : j < ds.length), VR ρ I w (vs.getD j undef) ds[j]) (hn : ∀ x ∈ ds, x.one = true) : VRA ρ I w (C.toList.take o ++ vs ++ C.toList.drop (o + vs.length)).toArray (splice cs o ds) := by
  obtain ⟨h1, h2, h3⟩ := hC
  have hlen := splice_len (cs := cs) (ys := ds) (o := o) ho
  refine ⟨by rw [hlen]; simp; omega, fun j hj => ?_, fun x hx => ?_⟩
  rotate_left
  · simp only [Ev.splice, List.append_assoc, List.mem_append] at hx
    rcases hx with hx | hx | hx
    · exact h3 x (List.mem_of_mem_take hx)
    · exact hn x hx
    · exact h3 x (List.mem_of_mem_drop hx)
  have hsp := splice_get cs ds o j (by omega)
  have hj' : (Ev.splice cs o ds)[j]? = some (Ev.splice cs o ds)[j] := List.getElem?_eq_getElem hj
  rw [hj'] at hsp
  generalize (Ev.splice cs o ds)[j] = d at hj' hsp
  have hrow := row_get C.toList vs o j (by simp; omega)
  by_cases q1 : j < o
  · rw [if_pos q1] at hsp hrow
    have hlt : j < cs.length := by omega
    rw [List.getElem?_eq_getElem hlt] at hsp
    cases hsp
    have hc : C.toList[j]? = some (C.getD j undef) := by simp [Array.getD, show j < C.size by omega]
    rw [getD_of_some (x := C.getD j undef) (by rw [List.getElem?_toArray, hrow]; exact hc)]
    exact h2 j hlt
  · rw [if_neg q1] at hsp hrow
    by_cases q2 : j < o + ds.length
    · rw [if_pos q2] at hsp
      rw [if_pos (by omega)] at hrow
      have hlt : j - o < ds.length := by omega
      rw [List.getElem?_eq_getElem hlt] at hsp
      cases hsp
      have hc : vs[j - o]? = some (vs.getD (j - o) undef) := by simp [List.getD, List.getElem?_eq_getElem (show j - o < vs.length by omega)]
      rw [getD_of_some (x := vs.getD (j - o) undef) (by rw [List.getElem?_toArray, hrow]; exact hc)]
      exact hv (j - o) hlt
    · rw [if_neg q2] at hsp
      rw [if_neg (by omega)] at hrow
      have hlt : j < cs.length := by omega
      rw [List.getElem?_eq_getElem hlt] at hsp
      cases hsp
      have hc : C.toList[j]? = some (C.getD j undef) := by simp [Array.getD, show j < C.size by omega]
      rw [getD_of_some (x := C.getD j undef) (by rw [List.getElem?_toArray, hrow]; exact hc)]
      exact h2 j hlt

/-- A composite literal's parts. -/
theorem fill_ok {place : Nat → Option (Nat × Nat)} : ∀ (parts : List (Nat × Operand)) (ps : List (Nat × Nat × Opd)) (C : Array Value) (cs ds : List PV), partsOf place parts = some ps → FR ρ I w nt a s → VRA ρ I w C cs →
    fillP cs (ps.map fun p => (p.1, p.2.1, p.2.2.val s)) = some ds → ∃ D, Instr.fill place C (parts.map fun p => (p.1, a.eval p.2)) = some D ∧ VRA ρ I w D ds
  | [], ps, C, cs, ds, e, hf, hC, e' => by
    cases e
    cases e'
    exact ⟨C, rfl, hC⟩
  | (i, x) :: parts, ps, C, cs, ds, e, hf, hC, e' => by
    simp only [partsOf] at e
    split at e
    · rename_i off n X ps' h1 h2 h3
      cases e
      simp only [List.map_cons, fillP] at e'
      split at e'
      · rename_i hc
        obtain ⟨c0, c1, c2⟩ := hc
        obtain ⟨v1, v2, v3⟩ := (opd_vr h2 hf).cells c0
        have hC' : VRA ρ I w (((a.eval x).cells.zipIdx.foldl (fun cs (p : Value × Nat) => cs.setIfInBounds (off + p.2) p.1) C)) (splice cs off (X.val s).cells) := by
          have hz : ((a.eval x).cells.zipIdx.foldl (fun cs (p : Value × Nat) => cs.setIfInBounds (off + p.2) p.1) C) = (C.toList.take off ++ (a.eval x).cells.toList ++ C.toList.drop (off + (a.eval x).cells.toList.length)).toArray := by
            have := foldl_set (a.eval x).cells.toList 0 off C (by have := hC.1; simp; omega)
            rw [← Array.foldl_toList, Array.toList_zipIdx]
            simpa using this
          rw [hz]
          exact hC.splice (by simpa using v1) (by omega) (fun j hj => by have := v2 j hj; simpa [Array.getD_eq_getD_getElem?] using this) v3
        obtain ⟨D, d1, d2⟩ := fill_ok parts ps' _ _ ds h3 hf hC' e'
        refine ⟨D, ?_, d2⟩
        simp only [List.map_cons, Instr.fill, h1]
        rw [if_neg]
        · exact d1
        · have := hC.1
          simp only [ne_eq, decide_not, Bool.or_eq_true, Bool.not_eq_eq_eq_not, Bool.not_true, decide_eq_false_iff_not, decide_eq_true_eq, not_or, Decidable.not_not]
          omega
      · cases e'
    · cases e

theorem zero_vra {z : Value} {zs : List PV} (hc : cstCells z.cells.toList = some zs) : VRA ρ I w z.cells zs := by
  obtain ⟨h1, h2⟩ := cstCells_vr (ρ := ρ) (I := I) (w := w) _ _ hc
  exact ⟨by simpa using h1, fun j hj => by have := h2 j hj; simpa [Array.getD_eq_getD_getElem?] using this, cstCells_one _ _ hc⟩

theorem zeroCells_inv {t : TypeId} {zs : List PV} (e : zeroCells P t = some zs) : ∃ z, zeroT P t = some z ∧ cstCells z.cells.toList = some zs := by
  simpa [zeroCells, Option.bind_eq_some_iff] using e

theorem flatten_get {α : Type} (z : List α) (hz : 0 < z.length) : ∀ (n j : Nat), (List.replicate n z).flatten[j]? = if j < n * z.length then z[j % z.length]? else none
  | 0, j => by simp
  | n + 1, j => by
    rw [List.replicate_succ, List.flatten_cons, List.getElem?_append]
    have hm : (n + 1) * z.length = n * z.length + z.length := Nat.succ_mul _ _
    by_cases h1 : j < z.length
    · rw [if_pos h1, if_pos (by rw [hm]; omega), Nat.mod_eq_of_lt h1]
    · rw [if_neg h1, flatten_get z hz n (j - z.length)]
      have : j % z.length = (j - z.length) % z.length := by
        rw [Nat.mod_eq_sub_mod (by omega)]
      by_cases h2 : j < (n + 1) * z.length
      · rw [if_pos h2, if_pos (by rw [hm] at h2; omega), this]
      · rw [if_neg h2, if_neg (by rw [hm] at h2; omega)]

theorem reps_vra {z : Array Value} {zs : List PV} {n : Nat} (hz : VRA ρ I w z zs) (h0 : 0 < zs.length) :
    VRA ρ I w ((Array.range (n * zs.length)).map fun i => z[i % z.size]!) (List.replicate n zs).flatten := by
  have hlen : ((List.replicate n zs).flatten).length = n * zs.length := by simp
  refine ⟨by simp, fun j hj => ?_, fun x hx => ?_⟩
  rotate_left
  · simp only [List.mem_flatten, List.mem_replicate] at hx
    obtain ⟨l, ⟨_, rfl⟩, hx⟩ := hx
    exact hz.2.2 x hx
  have hj' : j < n * zs.length := by omega
  have hm : j % zs.length < zs.length := Nat.mod_lt _ h0
  have e := flatten_get zs h0 n j
  rw [if_pos hj', List.getElem?_eq_getElem hj, List.getElem?_eq_getElem hm] at e
  have e' := Option.some.inj e
  rw [e']
  have h1 : ((Array.range (n * zs.length)).map fun i => z[i % z.size]!).getD j undef = z.getD (j % zs.length) undef := by
    have hs := hz.1
    simp [Array.getD, hj', hs, hm]
  rw [h1]
  exact hz.2.1 _ hm

theorem bslice_out {t e : TypeId} {n z : Nat} {parts : Array (Nat × Operand)} {zs cs : List PV} {ps : List (Nat × Nat × Opd)} (hs : SR ρ I h w) (hf : FR ρ I w nt a s) (hu : P.underlying t = some (.slice e)) (hz : szT P e = some z) (hzc : zeroCells P e = some zs)
    (hc : n * z ≤ 2 ^ 24 ∧ zs.length = z ∧ 0 < z) (hp : partsOf (fun i => some (i * z, z)) parts.toList = some ps) (e' : fillP (List.replicate n zs).flatten (ps.map fun p => (p.1, p.2.1, p.2.2.val s)) = some cs) :
    ∃ C, (Instr.buildSlice t n (parts.map fun (i, x) => (i, a.eval x))).run P w = .ok (.slice (some ⟨w.heap.size, 0, none⟩) n n) (w.alloc (.cells C e)) ∧ VRA ρ I w C cs := by
  obtain ⟨zv, z1, z2⟩ := zeroCells_inv hzc
  obtain ⟨c1, c2, c3⟩ := hc
  have hzv : VRA ρ I w zv.cells zs := zero_vra z2
  have hsz : zv.cells.size = z := by rw [hzv.1]; exact c2
  have hr := reps_vra (n := n) hzv (by omega)
  obtain ⟨D, d1, d2⟩ := fill_ok parts.toList ps _ _ cs hp hf hr e'
  rw [c2] at d1
  refine ⟨D, ?_, d2⟩
  have hpl : (parts.map fun (p : Nat × Operand) => (p.1, a.eval p.2)).toList = parts.toList.map fun p => (p.1, a.eval p.2) := by simp
  by_cases hnz : n * z = 0
  · have hn0 : n = 0 := by
      rcases Nat.mul_eq_zero.1 hnz with q | q
      · exact q
      · omega
    subst hn0
    simp only [Nat.zero_mul] at d1
    simp only [Instr.buildSlice, Sem.run_bind, run_underlying hu, Result.andThen_ok, run_sizeOf hz, Nat.zero_mul]
    simp only [show ¬ (0 > 2 ^ 24) by decide, if_false, if_true, Sem.run_bind, Sem.run_pure, Result.andThen_ok]
    have : ((Array.range 0).map fun x => (#[] : Array Value)[x % (#[] : Array Value).size]!) = ((Array.range 0).map fun i => zv.cells[i % zv.cells.size]!) := by simp
    rw [this, hpl, d1]
    simp [newRow]
  · simp only [Instr.buildSlice, Sem.run_bind, run_underlying hu, Result.andThen_ok, run_sizeOf hz]
    rw [if_neg (by omega)]
    simp only [if_neg hnz, Sem.run_bind, run_zeroValue z1, Sem.run_pure, Result.andThen_ok]
    rw [hpl, d1]
    simp [newRow]

end
end Go.Ev

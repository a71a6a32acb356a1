/- Each operation of the abstract machine stands for the machine's own: all of them together. -/
import Derived.Test.YtpdgjdnipkmocaaEvL
set_option linter.unusedVariables false
set_option linter.unusedSimpArgs false
namespace Go.Ev
open Go.MapKept (bytes_beq run_findKey heap_set)
section
variable {P : Program} {ρ : Nat → Option (Nat × Nat)} {I : Nat → Prop} {h : AH} {w : World} {nt : Nat} {a : Act} {s : Fr} {u u' : Value} {v X Y : PV}

theorem keep_inv {α : Option PV} {h' : AH} (e : keep h α = some (v, h')) : α = some v ∧ h' = h := by
  cases α with
  | none => cases e
  | some x => simp [keep] at e; exact ⟨by rw [e.1], e.2.symm⟩

theorem outS {r : Sem Value} {x : Value} (hr : r.run P w = .ok x w) (hs : SR ρ I h w) (hv : VR ρ I w x v) : Out ρ I h w v h ((do pure (Next.value (← r)) : Sem Next).run P w) :=
  .same (run_v r hr) hs hv

theorem outN {r : Sem Value} {x : Value} {w' : World} {h' : AH} {ρ' : Nat → Option (Nat × Nat)} {I' : Nat → Prop} (hr : r.run P w = .ok x w') (st : St ρ I h w ρ' I' h' w') (hs : SR ρ' I' h' w') (hv : VR ρ' I' w' x v) :
    Out ρ I h w v h' ((do pure (Next.value (← r)) : Sem Next).run P w) :=
  ⟨x, w', ρ', I', .inl (by simp [hr]), st, hs, hv⟩

theorem outU {r : Sem Unit} {w' : World} {h' : AH} (hr : r.run P w = .ok () w') (st : St ρ I h w ρ I h' w') (hs : SR ρ I h' w') : Out ρ I h w .undef h' ((do r; pure Next.skip : Sem Next).run P w) :=
  ⟨undef, w', ρ, I, .inr ⟨by simp [hr], rfl⟩, st, hs, VR.undef⟩

theorem un_ok {op : UnOp} (e : evUn op X = some v) (hx : VR ρ I w u X) : (Op.unary op u).run P w = .ok (conc v) w ∧ VR ρ I w (conc v) v := by
  unfold evUn at e
  split at e
  · rw [hx.int_inv]; cases e; exact ⟨by simp [Op.unary, Op.intArith, conc], .int _ _⟩
  · rw [hx.bool_inv]; cases e; exact ⟨by simp [Op.unary, conc], .bool _⟩
  · cases e

theorem mapM_places (fs : List Field) (hz : ∀ f ∈ fs, (szT P f.type).isSome = true) :
    (fs.mapM fun f => (do pure (f.offset, ← sizeOf f.type) : Sem (Nat × Nat))).run P w = .ok (fs.map fun f => (f.offset, (szT P f.type).getD 0)) w := by
  induction fs with
  | nil => simp
  | cons f fs ih =>
    obtain ⟨n, hn⟩ := Option.isSome_iff_exists.1 (hz f (by simp))
    have := ih (fun g hg => hz g (by simp [hg]))
    simp only [List.mapM_cons, Sem.run_bind, run_sizeOf hn, Result.andThen_ok, Sem.run_pure, this, List.map_cons, hn, Option.getD_some]

theorem build_struct {t : TypeId} {fs : Array Field} {parts : Array (Nat × Operand)} {zs cs : List PV} {ps : List (Nat × Nat × Opd)} (hf : FR ρ I w nt a s) (hu : P.underlying t = some (.struct fs)) (hzc : zeroCells P t = some zs)
    (hall : fs.all (fun (f : Field) => (szT P f.type).isSome) = true) (hp : partsOf (fun (i : Nat) => (fs[i]?).bind fun (f : Field) => (szT P f.type).map fun n => (f.offset, n)) parts.toList = some ps)
    (e' : fillP zs (ps.map fun p => (p.1, p.2.1, p.2.2.val s)) = some cs) :
    ∃ C, (Instr.build t (parts.map fun (i, x) => (i, a.eval x))).run P w = .ok (.agg C) w ∧ VRA ρ I w C cs := by
  obtain ⟨zv, z1, z2⟩ := zeroCells_inv hzc
  have hzv : VRA ρ I w zv.cells zs := zero_vra z2
  have hz : ∀ f ∈ fs.toList, (szT P f.type).isSome = true := fun f hf => (Array.all_eq_true_iff_forall_mem.1 hall) f (by simpa using hf)
  have hpl := mapM_places (P := P) (w := w) fs.toList hz
  have hplace : (fun (i : Nat) => (fs[i]?).bind fun (f : Field) => (szT P f.type).map fun n => (f.offset, n)) = fun (i : Nat) => ((fs.toList.map fun (f : Field) => (f.offset, (szT P f.type).getD 0)).toArray)[i]? := by
    funext i
    simp only [List.getElem?_toArray, List.getElem?_map, Array.getElem?_toList]
    cases hi : fs[i]? with
    | none => rfl
    | some f =>
      have hm : f ∈ fs.toList := by
        have := Array.mem_of_getElem? hi
        simpa using this
      obtain ⟨n, hn⟩ := Option.isSome_iff_exists.1 (hz f hm)
      simp [hn]
  rw [hplace] at hp
  obtain ⟨D, d1, d2⟩ := fill_ok parts.toList ps _ _ cs hp hf hzv e'
  refine ⟨D, ?_, d2⟩
  have hma : (fs.mapM fun f => (do pure (f.offset, ← sizeOf f.type) : Sem (Nat × Nat))).run P w = .ok (fs.toList.map fun f => (f.offset, (szT P f.type).getD 0)).toArray w := by
    rw [Array.mapM_eq_mapM_toList, Sem.run_map, hpl]
    rfl
  have hpt : (parts.map fun (p : Nat × Operand) => (p.1, a.eval p.2)).toList = parts.toList.map fun p => (p.1, a.eval p.2) := by simp
  simp only [Instr.build, Sem.run_bind, run_zeroValue z1, Result.andThen_ok, run_underlying hu, hma]
  rw [hpt, d1]
  rfl

theorem build_array {t e : TypeId} {n z : Nat} {parts : Array (Nat × Operand)} {zs cs : List PV} {ps : List (Nat × Nat × Opd)} (hf : FR ρ I w nt a s) (hu : P.underlying t = some (.array n e)) (hzc : zeroCells P t = some zs) (hz : szT P e = some z)
    (hp : partsOf (fun i => some (i * z, z)) parts.toList = some ps) (e' : fillP zs (ps.map fun p => (p.1, p.2.1, p.2.2.val s)) = some cs) :
    ∃ C, (Instr.build t (parts.map fun (i, x) => (i, a.eval x))).run P w = .ok (.agg C) w ∧ VRA ρ I w C cs := by
  obtain ⟨zv, z1, z2⟩ := zeroCells_inv hzc
  have hzv : VRA ρ I w zv.cells zs := zero_vra z2
  obtain ⟨D, d1, d2⟩ := fill_ok parts.toList ps _ _ cs hp hf hzv e'
  refine ⟨D, ?_, d2⟩
  have hpt : (parts.map fun (p : Nat × Operand) => (p.1, a.eval p.2)).toList = parts.toList.map fun p => (p.1, a.eval p.2) := by simp
  simp only [Instr.build, Sem.run_bind, run_zeroValue z1, Result.andThen_ok, run_underlying hu, run_sizeOf hz]
  rw [hpt, d1]
  rfl

theorem VRA.agg {C : Array Value} {cs : List PV} (hC : VRA ρ I w C cs) : VR ρ I w (.agg C) (.agg cs) := .agg hC.1 hC.2.1 hC.2.2

theorem minmax_fold {mx : Bool} {ty : TypeId} : ∀ (xs : List Value) (Xs : List PV) (k : IntKind) (n : Int) (r : PV), xs.length = Xs.length → (∀ j (hj : j < Xs.length), VR ρ I w (xs.getD j undef) Xs[j]) →
    Xs.foldl (fun acc v => match acc, v with
      | some (.int k x), .int k' y => if k = k' then some (PV.int k (if mx then (if y > x then y else x) else (if y < x then y else x))) else none
      | _, _ => none) (some (PV.int k n)) = some r → ∃ m, r = .int k m ∧ (xs.foldlM (if mx then Builtin.max2 else Builtin.min2) (Value.int k n)).run P w = .ok (.int k m) w
  | [], Xs, k, n, r, hl, _, e => by
    cases Xs with
    | nil => cases e; exact ⟨n, rfl, by simp⟩
    | cons _ _ => simp at hl
  | x :: xs, Xs, k, n, r, hl, hv, e => by
    cases Xs with
    | nil => simp at hl
    | cons X Xs =>
      have nofold : ∀ l : List PV, l.foldl (fun acc v => match acc, v with
          | some (.int k x), .int k' y => if k = k' then some (PV.int k (if mx then (if y > x then y else x) else (if y < x then y else x))) else none
          | _, _ => none) (none : Option PV) = none := by
        intro l
        induction l with
        | nil => rfl
        | cons y l ih => rw [List.foldl_cons]; exact ih
      rw [List.foldl_cons] at e
      have h0 := hv 0 (by simp)
      simp only [List.getElem_cons_zero] at h0
      cases X with
      | int k' m =>
        simp only at e
        by_cases hk : k = k'
        · subst hk
          rw [if_pos rfl] at e
          have hx : x = .int k m := by have := h0.int_inv; simpa using this
          subst hx
          obtain ⟨q, q1, q2⟩ := minmax_fold (mx := mx) (ty := ty) xs Xs k _ r (by simpa using hl) (fun j hj => by have := hv (j + 1) (by simp; omega); simpa using this) e
          refine ⟨q, q1, ?_⟩
          rw [List.foldlM_cons]
          cases mx with
          | true => simpa [Builtin.max2] using q2
          | false => simpa [Builtin.min2] using q2
        · rw [if_neg hk, nofold] at e; cases e
      | _ => simp only at e; rw [nofold] at e; cases e

end
end Go.Ev

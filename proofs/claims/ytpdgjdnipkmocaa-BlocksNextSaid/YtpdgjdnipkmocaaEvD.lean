/- Each operation of the abstract machine stands for the machine's own: the ones that only read. -/
import Derived.Test.YtpdgjdnipkmocaaEvB
import Derived.Test.YtpdgjdnipkmocaaEvC
import Derived.Laws.Cells
import Derived.Laws.CopyRow
import Derived.Laws.Rows
import Derived.Laws.Strings
import Derived.Deep.MidRow
set_option linter.unusedVariables false
set_option linter.unusedSimpArgs false
namespace Go.Ev

/-- How the slots stand for each other. -/
structure FR (ρ : Nat → Option (Nat × Nat)) (I : Nat → Prop) (w : World) (nt : Nat) (a : Act) (s : Fr) : Prop where
  size : nt ≤ a.tmps.size
  defers : a.defers = []
  slot : ∀ t, VR ρ I w (a.tmps.getD t undef) (s t)

/-- What a run of an operation comes to. -/
def Out (ρ : Nat → Option (Nat × Nat)) (I : Nat → Prop) (h : AH) (w : World) (v : PV) (h' : AH) (r : Result Next) : Prop :=
  ∃ u w' ρ' I', (r = .ok (.value u) w' ∨ (r = .ok .skip w' ∧ u = undef)) ∧ St ρ I h w ρ' I' h' w' ∧ SR ρ' I' h' w' ∧ VR ρ' I' w' u v

section
variable {P : Program} {ρ : Nat → Option (Nat × Nat)} {I : Nat → Prop} {h : AH} {w : World} {nt : Nat} {a : Act} {s : Fr} {u u' : Value} {v : PV}

theorem FR.step {ρ' : Nat → Option (Nat × Nat)} {I' : Nat → Prop} {h' : AH} {w' : World} (hf : FR ρ I w nt a s) (hs : SR ρ I h w) (st : St ρ I h w ρ' I' h' w') : FR ρ' I' w' nt a s :=
  ⟨hf.size, hf.defers, fun t => (hf.slot t).step hs st⟩

theorem VR.undef : VR ρ I w undef .undef := .tup rfl fun j hj => absurd hj (Nat.not_lt_zero _)

theorem FR.put {d : Option Nat} (hf : FR ρ I w nt a s) (hd : ∀ t, d = some t → t < nt) (hv : VR ρ I w u v) : FR ρ I w nt (a.put d u) (Fr.put s d v) := by
  cases d with
  | none => exact hf
  | some t =>
    refine ⟨by simp [Act.put]; exact hf.size, hf.defers, fun x => ?_⟩
    have hlt : t < a.tmps.size := Nat.lt_of_lt_of_le (hd t rfl) hf.size
    by_cases hx : x = t
    · subst hx
      have : ((a.put (some x) u).tmps.getD x Go.undef) = u := by simp [Act.put, Array.getD, hlt]
      rw [this]
      simpa [Fr.put] using hv
    · have : ((a.put (some t) u).tmps.getD x Go.undef) = a.tmps.getD x Go.undef := by
        simp only [Act.put, Array.getD_eq_getD_getElem?]
        rw [Array.getElem?_setIfInBounds_ne (fun e => hx e.symm)]
      rw [this]
      simp only [Fr.put, if_neg hx]
      exact hf.slot x

theorem cstCell_vr {x : PV} (e : cstCell u = some x) : VR ρ I w u x := by
  unfold cstCell at e
  split at e <;> first | (cases e; constructor) | cases e

theorem cstCells_vr : ∀ (us : List Value) (xs : List PV), cstCells us = some xs → us.length = xs.length ∧ ∀ j (hj : j < xs.length), VR ρ I w (us.getD j undef) xs[j]
  | [], xs, e => by cases e; exact ⟨rfl, fun j hj => absurd hj (Nat.not_lt_zero _)⟩
  | u :: us, xs, e => by
    simp only [cstCells] at e
    split at e
    · rename_i x xs' e1 e2
      cases e
      obtain ⟨h1, h2⟩ := cstCells_vr us xs' e2
      refine ⟨by simp [h1], fun j hj => ?_⟩
      cases j with
      | zero => exact cstCell_vr e1
      | succ j => exact h2 j (by simpa using hj)
    · cases e

theorem cstCells_one : ∀ (us : List Value) (xs : List PV), cstCells us = some xs → ∀ x ∈ xs, x.one = true
  | [], xs, e => by cases e; intro x hx; cases hx
  | u :: us, xs, e => by
    simp only [cstCells] at e
    split at e
    · rename_i y xs' e1 e2
      cases e
      intro x hx
      cases hx with
      | head =>
        unfold cstCell at e1
        split at e1 <;> first | (cases e1; rfl) | cases e1
      | tail _ hm => exact cstCells_one us xs' e2 x hm
    · cases e

theorem cst_vr {x : PV} (e : cst u = some x) : VR ρ I w u x := by
  unfold cst at e
  split at e
  · rename_i cs
    cases h1 : cstCells cs.toList with
    | none => simp [h1] at e
    | some xs =>
      simp [h1] at e
      subst e
      obtain ⟨g1, g2⟩ := cstCells_vr (ρ := ρ) (I := I) (w := w) _ _ h1
      exact .agg (by simpa using g1) (fun j hj => by have := g2 j hj; simpa [Array.getD_eq_getD_getElem?] using this) (cstCells_one _ _ h1)
  · rename_i cs
    cases h1 : cstCells cs.toList with
    | none => simp [h1] at e
    | some xs =>
      simp [h1] at e
      subst e
      obtain ⟨g1, g2⟩ := cstCells_vr (ρ := ρ) (I := I) (w := w) _ _ h1
      exact .tup (by simpa using g1) fun j hj => by have := g2 j hj; simpa [Array.getD_eq_getD_getElem?] using this
  · exact cstCell_vr e

theorem opd_vr {x : Operand} {X : Opd} (e : opd x = some X) (hf : FR ρ I w nt a s) : VR ρ I w (a.eval x) (X.val s) := by
  cases x with
  | tmp t => simp only [opd] at e; cases e; exact hf.slot t
  | const c =>
    simp only [opd] at e
    cases h1 : cst c with
    | none => simp [h1] at e
    | some y => simp [h1] at e; subst e; exact cst_vr h1
  | global g => simp [opd] at e
  | func f =>
    simp only [opd] at e
    cases e
    exact .fn rfl rfl (fun j hj => absurd hj (Nat.not_lt_zero _)) (fun j hj => absurd hj (Nat.not_lt_zero _))

theorem opds_vr : ∀ (xs : List Operand) (Xs : List Opd), opds xs = some Xs → FR ρ I w nt a s → VRL ρ I w (xs.map a.eval).toArray (Xs.map (Opd.val s))
  | [], Xs, e, hf => by cases e; exact ⟨rfl, fun j hj => absurd hj (Nat.not_lt_zero _)⟩
  | x :: xs, Xs, e, hf => by
    simp only [opds] at e
    split at e
    · rename_i X Xs' e1 e2
      cases e
      obtain ⟨h1, h2⟩ := opds_vr xs Xs' e2 hf
      refine ⟨by simpa using h1, fun j hj => ?_⟩
      cases j with
      | zero => exact opd_vr e1 hf
      | succ j => have := h2 j (by simpa using hj); simpa [Array.getD_eq_getD_getElem?] using this
    · cases e

/-- A run that leaves the world alone. -/
theorem Out.same {r : Result Next} (hr : r = .ok (.value u) w) (hs : SR ρ I h w) (hv : VR ρ I w u v) : Out ρ I h w v h r :=
  ⟨u, w, ρ, I, .inl hr, .refl, hs, hv⟩

theorem run_v (x : Sem Value) (hx : x.run P w = .ok u w) : (do pure (Next.value (← x)) : Sem Next).run P w = .ok (.value u) w := by
  simp [hx]

/- The readings of types. -/
theorem run_typeInfo {t : TypeId} {i : TypeInfo} (e : P.info? t = some i) : (typeInfo t).run P w = .ok i w := by simp [typeInfo, e]
theorem run_sizeOf {t : TypeId} {n : Nat} (e : szT P t = some n) : (sizeOf t).run P w = .ok n w := by
  simp only [szT, Option.map_eq_some_iff] at e
  obtain ⟨i, hi, rfl⟩ := e
  simp [sizeOf, run_typeInfo hi]
theorem run_zeroValue {t : TypeId} {z : Value} (e : zeroT P t = some z) : (zeroValue t).run P w = .ok z w := by
  simp only [zeroT, Option.bind_eq_some_iff] at e
  obtain ⟨i, hi, hz⟩ := e
  simp [zeroValue, run_typeInfo hi, hz]
theorem run_isAgg {t : TypeId} {g : Bool} (e : isAggT P t = some g) : (isAgg t).run P w = .ok g w := by
  unfold isAggT at e
  split at e
  · rename_i fs hu; cases e; simp [isAgg, run_underlying hu]
  · rename_i n t' hu; cases e; simp [isAgg, run_underlying hu]
  · rename_i d h1 h2 hu
    cases e
    simp only [isAgg, Sem.run_bind, run_underlying hu, Result.andThen_ok]
    cases d <;> first | rfl | (exact absurd hu (h1 _)) | (exact absurd hu (h2 _ _)) | (exact absurd rfl (h1 _)) | (exact absurd rfl (h2 _ _))
  · cases e

/-- The cells behind a pointer. -/
theorem ptr_cells {p : PV} {n : Nat} {ds : List PV} (hs : SR ρ I h w) (hv : VR ρ I w u p) (e : rds h p n = some ds) :
    ∃ (b o : Nat) (us : Nat → Value), u = .pointer (some ⟨b, o, none⟩) ∧ ds.length = n ∧ (∀ j, j < n → w.cell? ⟨b, o + j, none⟩ = some (us j)) ∧ (∀ j (hj : j < ds.length), VR ρ I w (us j) ds[j]) ∧ ∀ x ∈ ds, x.one = true := by
  cases p with
  | pi cs =>
    simp only [rds] at e
    split at e
    · rename_i hn
      cases e
      cases hv with
      | pi us hI hA hv ho =>
        rename_i b o
        refine ⟨b, o, us, rfl, by simp [hn], fun j hj => hA j (by omega), fun j hj => ?_, fun x hx => ho x (List.mem_of_mem_take hx)⟩
        rw [List.getElem_take]
        exact hv j _
    · cases e
  | pt i o =>
    simp only [rds, AH.row] at e
    cases hb : h.blk i with
    | none => simp [hb] at e
    | some B =>
      cases B with
      | map es => simp [hb] at e
      | cells cs =>
        simp only [hb] at e
        split at e
        · rename_i hn
          cases e
          cases hv with
          | pt hρ =>
            rename_i b o'
            obtain ⟨b2, o2, g, hB⟩ := hs.live i _ hb
            rw [hρ] at g
            cases g
            obtain ⟨C, T, g1, g2, g3⟩ := hB
            refine ⟨b, o' + o, fun j => C.getD (o' + (o + j)) undef, rfl, by simp; omega, fun j hj => ?_, fun j hj => ?_, fun x hx => g3.2 x (List.mem_of_mem_drop (List.mem_of_mem_take hx))⟩
            · simp only [World.cell?, g1]
              simp [Array.getD, Nat.add_assoc, show o' + (o + j) < C.size by omega]
            · have hj' : j < n := by simp at hj; omega
              have := g3.1 (o + j) (by omega)
              simpa [List.getElem_take, List.getElem_drop] using this
        · cases e
  | _ => simp [rds] at e

theorem ptr_cell {p d : PV} (hs : SR ρ I h w) (hv : VR ρ I w u p) (e : rd1 h p = some d) :
    ∃ (b o : Nat) (x : Value), u = .pointer (some ⟨b, o, none⟩) ∧ w.cell? ⟨b, o, none⟩ = some x ∧ VR ρ I w x d := by
  have e' : rds h p 1 = some [d] := by
    cases p with
    | pi cs =>
      cases cs with
      | nil => simp [rd1] at e
      | cons c cs => simp [rd1] at e; subst e; simp [rds]
    | pt i o =>
      simp only [rd1, rds] at e ⊢
      cases hr : h.row i with
      | none => simp [hr] at e
      | some cs =>
        simp only [hr] at e ⊢
        have hlt : o < cs.length := by
          rcases Nat.lt_or_ge o cs.length with q | q
          · exact q
          · rw [List.getElem?_eq_none q] at e; cases e
        rw [if_pos (by omega)]
        rw [List.getElem?_eq_getElem hlt] at e
        cases e
        have := List.drop_eq_getElem_cons hlt
        rw [this]
        rfl
    | _ => simp [rd1] at e
  obtain ⟨b, o, us, rfl, _, h1, h2, _⟩ := ptr_cells hs hv e'
  exact ⟨b, o, us 0, rfl, h1 0 (by omega), h2 0 (by simp)⟩

theorem agg_mk {us : Nat → Value} {ds : List PV} {n : Nat} (hn : ds.length = n) (hv : ∀ j (hj : j < ds.length), VR ρ I w (us j) ds[j]) (ho : ∀ x ∈ ds, x.one = true) :
    VR ρ I w (.agg ((List.range n).map us).toArray) (.agg ds) :=
  .agg (by simp [hn]) (fun j hj => by
    have hj' : j < n := by omega
    have : (((List.range n).map us).toArray.getD j undef) = us j := by simp [Array.getD, hj']
    rw [this]
    exact hv j hj) ho

theorem run_loadAgg {t : TypeId} {n b o : Nat} {us : Nat → Value} (hg : isAggT P t = some true) (hz : szT P t = some n) (hc : ∀ j, j < n → w.cell? ⟨b, o + j, none⟩ = some (us j)) :
    (loadVar t ⟨b, o, none⟩).run P w = .ok (.agg ((List.range n).map us).toArray) w := by
  have h1 := run_loadCells (P := P) w ⟨b, o, none⟩ n us (fun j hj => by rw [Addr.add_mid]; exact hc j hj)
  simp [loadVar, run_isAgg hg, run_sizeOf hz, h1]

theorem run_loadOne {t : TypeId} {b o : Nat} {x : Value} (hg : isAggT P t = some false) (hc : w.cell? ⟨b, o, none⟩ = some x) : (loadVar t ⟨b, o, none⟩).run P w = .ok x w := by
  simp [loadVar, run_isAgg hg, hc]

theorem load_ok {t : TypeId} {g : Bool} {n : Nat} {p : PV} (hg : isAggT P t = some g) (hz : szT P t = some n) (hs : SR ρ I h w) (hv : VR ρ I w u p)
    (e : (if g then (rds h p n).map .agg else rd1 h p) = some v) : ∃ x, (Instr.loadAt t u).run P w = .ok x w ∧ VR ρ I w x v := by
  cases g with
  | true =>
    simp only [if_true, Option.map_eq_some_iff] at e
    obtain ⟨ds, e1, rfl⟩ := e
    obtain ⟨b, o, us, rfl, h0, h1, h2, h3⟩ := ptr_cells hs hv e1
    exact ⟨_, by simp [Instr.loadAt, Instr.sureAddr, run_loadAgg hg hz h1], agg_mk h0 h2 h3⟩
  | false =>
    simp only [Bool.false_eq_true, if_false] at e
    obtain ⟨b, o, x, rfl, h1, h2⟩ := ptr_cell hs hv e
    exact ⟨x, by simp [Instr.loadAt, Instr.sureAddr, run_loadOne hg h1], h2⟩

theorem bytes_eq (x y : ByteArray) : (x.toList == y.toList) = decide (x = y) := by
  rw [Bool.eq_iff_iff]
  simp only [beq_iff_eq, decide_eq_true_eq]
  constructor
  · intro e
    rw [ByteArray.toList_eq, ByteArray.toList_eq] at e
    cases x; cases y
    have e' := congrArg List.toArray e
    simpa using e'
  · rintro rfl; rfl

end
end Go.Ev

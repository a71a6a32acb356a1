/- Regions: the order in which a statement's operations are carried out does not matter where the translation let it by. -/
import Derived.Test.YtpdgjdnipkmocaaEvN
import Derived.Orders
set_option linter.unusedVariables false
set_option linter.unusedSimpArgs false
namespace Go.Ev
section
variable {call : Nat → List PV → AH → Option (PV × AH)} {pu : Nat → Bool}

/-- Every block is still there. -/
def AH.le (h h' : AH) : Prop := ∀ i B, h.blk i = some B → h'.blk i = some B

/-- Calls of the functions that leave the heap alone. -/
def PureOk (pu : Nat → Bool) (call : Nat → List PV → AH → Option (PV × AH)) : Prop :=
  (∀ f as h r h', pu f = true → call f as h = some (r, h') → h' = h ∧ ∀ h2, h.le h2 → call f as h2 = some (r, h2)) ∧
    ∀ f as h r h', pu (f + exb) = true → (∀ i, h.nx ≤ i → h.blk i = none) → call f as h = some (r, h') → h.le h'

theorem row_le {h h' : AH} (hl : h.le h') {i : Nat} {cs : List PV} (e : h.row i = some cs) : h'.row i = some cs := by
  have := hl _ _ (row_blk e)
  simp [AH.row, this]

theorem Opd.val_congr {s s' : Fr} {x : Opd} (hs : ∀ t ∈ x.slots, s t = s' t) : x.val s = x.val s' := by
  cases x with
  | t n => exact hs n (by simp [Opd.slots])
  | c v => rfl

theorem vals_congr {s s' : Fr} : ∀ {xs : List Opd}, (∀ t ∈ xs.flatMap Opd.slots, s t = s' t) → xs.map (Opd.val s) = xs.map (Opd.val s')
  | [], _ => rfl
  | x :: xs, hs => by
    simp only [List.flatMap_cons, List.mem_append] at hs
    rw [List.map_cons, List.map_cons, Opd.val_congr (fun t ht => hs t (.inl ht)), vals_congr (fun t ht => hs t (.inr ht))]

theorem parts_congr {s s' : Fr} : ∀ {ps : List (Nat × Nat × Opd)}, (∀ t ∈ ps.flatMap (fun p => p.2.2.slots), s t = s' t) → ps.map (fun p => (p.1, p.2.1, p.2.2.val s)) = ps.map (fun p => (p.1, p.2.1, p.2.2.val s'))
  | [], _ => rfl
  | x :: xs, hs => by
    simp only [List.flatMap_cons, List.mem_append] at hs
    rw [List.map_cons, List.map_cons, Opd.val_congr (fun t ht => hs t (.inl ht)), parts_congr (fun t ht => hs t (.inr ht))]

theorem optval_congr {s s' : Fr} {x : Option Opd} (hs : ∀ t ∈ optSlots x, s t = s' t) : x.map (Opd.val s) = x.map (Opd.val s') := by
  cases x with
  | none => rfl
  | some x => simp only [Option.map_some]; rw [Opd.val_congr hs]

theorem evOp_congr {o : COp} {s s' : Fr} {h : AH} (hs : ∀ t ∈ o.slots, s t = s' t) : evOp call o s h = evOp call o s' h := by
  have one : ∀ x : Opd, (∀ t ∈ x.slots, t ∈ o.slots) → x.val s = x.val s' := fun x hx => Opd.val_congr fun t ht => hs t (hx t ht)
  cases o
  case bslice z n zs ps => simp only [evOp]; rw [parts_congr (fun t ht => hs t ht)]
  case blit n zs ps => simp only [evOp]; rw [parts_congr (fun t ht => hs t ht)]
  case build zs ps => simp only [evOp]; rw [parts_congr (fun t ht => hs t ht)]
  case mkfn f fs cs => simp only [evOp]; rw [vals_congr (xs := fs) (fun t ht => hs t (by simp [COp.slots]; exact .inl (by simpa using ht))), vals_congr (xs := cs) (fun t ht => hs t (by simp [COp.slots]; exact .inr (by simpa using ht)))]
  case call f as => simp only [evOp]; rw [vals_congr (xs := as) (fun t ht => hs t ht)]
  case minmax m xs => simp only [evOp]; rw [vals_congr (xs := xs) (fun t ht => hs t ht)]
  case callv f as => simp only [evOp]; rw [one f (fun t ht => by simp [COp.slots, ht]), vals_congr (xs := as) (fun t ht => hs t (by simp [COp.slots]; exact .inr (by simpa using ht)))]
  case slice z x lo hi mx => simp only [evOp]; rw [one x (fun t ht => by simp [COp.slots, ht]), optval_congr (x := lo) (fun t ht => hs t (by simp [COp.slots, ht])), optval_congr (x := hi) (fun t ht => hs t (by simp [COp.slots, ht])), optval_congr (x := mx) (fun t ht => hs t (by simp [COp.slots, ht]))]
  case slstr x lo hi => simp only [evOp]; rw [one x (fun t ht => by simp [COp.slots, ht]), optval_congr (x := lo) (fun t ht => hs t (by simp [COp.slots, ht])), optval_congr (x := hi) (fun t ht => hs t (by simp [COp.slots, ht]))]
  case bad => rfl
  case alloc zs => rfl
  case mkmap => rfl
  case pick c a b => simp only [evOp]; rw [one c (fun t ht => by simp [COp.slots, ht]), one a (fun t ht => by simp [COp.slots, ht]), one b (fun t ht => by simp [COp.slots, ht])]
  case upd kd m k v => simp only [evOp]; rw [one m (fun t ht => by simp [COp.slots, ht]), one k (fun t ht => by simp [COp.slots, ht]), one v (fun t ht => by simp [COp.slots, ht])]
  case mov x => simp only [evOp]; rw [one x (fun t ht => by simp [COp.slots, ht])]
  case nilchk x => simp only [evOp]; rw [one x (fun t ht => by simp [COp.slots, ht])]
  case box x => simp only [evOp]; rw [one x (fun t ht => by simp [COp.slots, ht])]
  case boxi x => simp only [evOp]; rw [one x (fun t ht => by simp [COp.slots, ht])]
  case clear z zs x => simp only [evOp]; rw [one x (fun t ht => by simp [COp.slots, ht])]
  case load g n x => simp only [evOp]; rw [one x (fun t ht => by simp [COp.slots, ht])]
  case isnil g k x => simp only [evOp]; rw [one x (fun t ht => by simp [COp.slots, ht])]
  case un op x => simp only [evOp]; rw [one x (fun t ht => by simp [COp.slots, ht])]
  case conv k x => simp only [evOp]; rw [one x (fun t ht => by simp [COp.slots, ht])]
  case str x => simp only [evOp]; rw [one x (fun t ht => by simp [COp.slots, ht])]
  case fld k x => simp only [evOp]; rw [one x (fun t ht => by simp [COp.slots, ht])]
  case fldv g k n x => simp only [evOp]; rw [one x (fun t ht => by simp [COp.slots, ht])]
  case ext x i => simp only [evOp]; rw [one x (fun t ht => by simp [COp.slots, ht])]
  case len k x => simp only [evOp]; rw [one x (fun t ht => by simp [COp.slots, ht])]
  case store n x y => simp only [evOp]; rw [one x (fun t ht => by simp [COp.slots, ht]), one y (fun t ht => by simp [COp.slots, ht])]
  case bin op x y => simp only [evOp]; rw [one x (fun t ht => by simp [COp.slots, ht]), one y (fun t ht => by simp [COp.slots, ht])]
  case eqb g x y => simp only [evOp]; rw [one x (fun t ht => by simp [COp.slots, ht]), one y (fun t ht => by simp [COp.slots, ht])]
  case eqs g k x y => simp only [evOp]; rw [one x (fun t ht => by simp [COp.slots, ht]), one y (fun t ht => by simp [COp.slots, ht])]
  case mkslice z b zs x y => simp only [evOp]; rw [one x (fun t ht => by simp [COp.slots, ht]), one y (fun t ht => by simp [COp.slots, ht])]
  case idx z x y => simp only [evOp]; rw [one x (fun t ht => by simp [COp.slots, ht]), one y (fun t ht => by simp [COp.slots, ht])]
  case idxp l z x y => simp only [evOp]; rw [one x (fun t ht => by simp [COp.slots, ht]), one y (fun t ht => by simp [COp.slots, ht])]
  case idxv g l z x y => simp only [evOp]; rw [one x (fun t ht => by simp [COp.slots, ht]), one y (fun t ht => by simp [COp.slots, ht])]
  case idxs x y => simp only [evOp]; rw [one x (fun t ht => by simp [COp.slots, ht]), one y (fun t ht => by simp [COp.slots, ht])]
  case lkp kd z ok x y => simp only [evOp]; rw [one x (fun t ht => by simp [COp.slots, ht]), one y (fun t ht => by simp [COp.slots, ht])]
  case app z b x y => simp only [evOp]; rw [one x (fun t ht => by simp [COp.slots, ht]), one y (fun t ht => by simp [COp.slots, ht])]
  case del kd x y => simp only [evOp]; rw [one x (fun t ht => by simp [COp.slots, ht]), one y (fun t ht => by simp [COp.slots, ht])]

theorem keep_any {h h' : AH} {α : Option PV} {v : PV} (e : keep h α = some (v, h')) : h' = h ∧ ∀ h2, keep h2 α = some (v, h2) := by
  obtain ⟨rfl, rfl⟩ := keep_inv e
  exact ⟨rfl, fun h2 => rfl⟩

/-- Class 0: the heap is neither read nor changed. -/
theorem cls0 {o : COp} {s : Fr} {h h' : AH} {v : PV} (hc : cls pu o = 0) (e : evOp call o s h = some (v, h')) : h' = h ∧ ∀ h2, evOp call o s h2 = some (v, h2) := by
  cases o <;> (first | (simp [cls] at hc; done) | (simp only [cls] at hc; split at hc <;> first | (cases hc; done) | (split at hc <;> cases hc; done)) | skip) <;> (simp only [evOp] at e ⊢) <;> first
    | exact keep_any e
    | (cases e; exact ⟨rfl, fun _ => rfl⟩)
    | (split at e <;> first | (cases e; exact ⟨rfl, fun _ => rfl⟩) | (cases e; exact ⟨rfl, fun _ => by simp_all⟩) | (cases e; done))
    | (split at hc <;> cases hc)
    | cases hc

theorem rds_le {h h' : AH} {p : PV} {n : Nat} {ds : List PV} (hl : h.le h') (e : rds h p n = some ds) : rds h' p n = some ds := by
  cases p with
  | pt i o =>
    simp only [rds] at e ⊢
    cases hr : h.row i with
    | none => simp [hr] at e
    | some cs => simp only [hr] at e; rw [row_le hl hr]; exact e
  | _ => exact e

theorem rd1_le {h h' : AH} {p d : PV} (hl : h.le h') (e : rd1 h p = some d) : rd1 h' p = some d := by
  cases p with
  | pt i o =>
    simp only [rd1] at e ⊢
    cases hr : h.row i with
    | none => simp [hr] at e
    | some cs => simp only [hr] at e; rw [row_le hl hr]; exact e
  | _ => exact e

theorem evLen_le {h h' : AH} {k : Nat} {X v : PV} (hl : h.le h') (e : evLen h k X = some v) : evLen h' k X = some v := by
  unfold evLen at e ⊢
  split at e <;> try exact e
  rename_i i
  cases hb : h.blk i with
  | none => simp [hb] at e
  | some B => simp only [hb] at e; simp only [hl _ _ hb]; exact e

/-- Class 1: the heap is read. -/
theorem cls1 {o : COp} {s : Fr} {h h' : AH} {v : PV} (hp : PureOk pu call) (hc : cls pu o = 1) (e : evOp call o s h = some (v, h')) : h' = h ∧ ∀ h2, h.le h2 → evOp call o s h2 = some (v, h2) := by
  have mono : ∀ {α : AH → Option PV}, keep h (α h) = some (v, h') → (∀ h2, h.le h2 → α h = some v → α h2 = some v) → h' = h ∧ ∀ h2, h.le h2 → keep h2 (α h2) = some (v, h2) := by
    intro α e m
    obtain ⟨e1, rfl⟩ := keep_inv e
    exact ⟨rfl, fun h2 hl => by rw [m h2 hl e1]; rfl⟩
  cases o with
  | load g n a =>
    refine mono (α := fun h => if g then (rds h (a.val s) n).map .agg else rd1 h (a.val s)) e fun h2 hl e1 => ?_
    cases g with
    | true =>
      simp only [if_true, Option.map_eq_some_iff] at e1 ⊢
      obtain ⟨ds, d1, d2⟩ := e1
      exact ⟨ds, rds_le hl d1, d2⟩
    | false => exact rd1_le hl e1
  | lkp kd z ok m k =>
    refine mono (α := fun h => evLkp h kd z ok (m.val s) (k.val s)) e fun h2 hl e1 => ?_
    unfold evLkp at e1 ⊢
    split at e1
    · rename_i hk
      rw [if_pos hk]
      cases hm : m.val s with
      | mp i =>
        simp only [hm] at e1 ⊢
        cases hb : h.blk i with
        | none => simp [hb] at e1
        | some B => simp only [hb] at e1; rw [hl _ _ hb]; exact e1
      | nilm => simp only [hm] at e1 ⊢; exact e1
      | _ => simp [hm] at e1
    · cases e1
  | len k x =>
    exact mono (α := fun h => evLen h k (x.val s)) e fun h2 hl e1 => evLen_le hl e1
  | call f as =>
    simp only [cls] at hc
    split at hc
    · rename_i hf
      exact hp.1 f _ h v h' hf e
    · split at hc <;> cases hc
  | _ => simp [cls] at hc

theorem push_le (h : AH) (B : Blk) (hf : h.blk h.nx = none) : h.le (h.push B) := by
  intro i C e
  rw [AH.push_blk]
  by_cases q : i = h.nx
  · subst q; rw [hf] at e; cases e
  · rw [if_neg q]; exact e

/-- Class 2: a new block. -/
theorem cls2 {o : COp} {s : Fr} {h h' : AH} {v : PV} (hp : PureOk pu call) (hw : ∀ i, h.nx ≤ i → h.blk i = none) (hc : cls pu o = 2) (e : evOp call o s h = some (v, h')) : h.le h' := by
  have hf := hw _ (Nat.le_refl _)
  by_cases hcall : ∃ f as, o = .call f as
  · obtain ⟨f, as, rfl⟩ := hcall
    simp only [cls] at hc
    split at hc
    · cases hc
    · split at hc
      · rename_i hx; exact hp.2 f _ h v h' hx hw e
      · cases hc
  cases o <;> (first | (exact absurd ⟨_, _, rfl⟩ hcall) | (simp [cls] at hc; done) | (simp only [cls] at hc; split at hc <;> cases hc; done) | skip) <;> (simp only [evOp] at e) <;> first
    | (cases e; exact push_le h _ hf)
    | (split at e <;> first | (cases e; exact push_le h _ hf) | (cases e; done) | (split at e <;> first | (cases e; exact push_le h _ hf) | cases e))
    | (split at hc <;> cases hc)
    | cases hc
end
end Go.Ev

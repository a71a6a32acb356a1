/- Chapter 46, in plain words: each variable, where it is bound, gets the least register that is free. -/
import Derived.Test.YtbnfcdjlbabddaaF3
set_option linter.unusedVariables false
set_option linter.unusedSimpArgs false
namespace Go.Proofs.Ytbnfcdjlbabddaa
open Go.Ev

/-- The registers in use; the least that is not. -/
def busyP (o : Int → Int) (l : List Int) : Int → Bool := fun r => l.any fun v => decide (0 ≤ o v) && decide (o v = r)
def freeR (b : Int → Bool) : Nat := (List.range 16).findIdx fun k => !b (k : Nat)
theorem freeR_le (b : Int → Bool) : freeR b ≤ 16 := by
  have := List.findIdx_le_length (p := fun k : Nat => !b (k : Nat)) (xs := List.range 16)
  simpa [freeR] using this
theorem freeR_lt {b : Int → Bool} {j : Nat} (h : j < freeR b) : b (j : Nat) = true := by
  have := List.not_of_lt_findIdx (p := fun k : Nat => !b (k : Nat)) (xs := List.range 16) h
  simpa using this
theorem freeR_at {b : Int → Bool} (h : freeR b < 16) : b (freeR b : Nat) = false := by
  have := List.findIdx_getElem (p := fun k : Nat => !b (k : Nat)) (xs := List.range 16) (w := by simpa [freeR] using h)
  simpa [freeR] using this
theorem freeR_eq {b : Int → Bool} {k : Nat} (hk : k ≤ 16) (h : ∀ j < k, b (j : Nat) = true) (h1 : k < 16 → b (k : Nat) = false) : freeR b = k := by
  rcases Nat.lt_trichotomy (freeR b) k with q | q | q
  · have := freeR_at (b := b) (by omega)
    rw [h _ q] at this; cases this
  · exact q
  · have := freeR_lt q
    rw [h1 (by have := freeR_le b; omega)] at this; cases this

def putL (b : Int → Bool) (o : Int → Int) : List Int → Option (Int → Int)
  | [] => some o
  | v :: r => if freeR b = 16 then none else putL (fun i => if i = (freeR b : Nat) then true else b i) (fun i => if i = v then (freeR b : Nat) else o i) r
mutual
def vis (f : LFun) : Tr → (Int → Int) → Option (Int → Int)
  | .node a ts, o => viss f ts (edg (nodeAt f a)) o
def viss (f : LFun) : List Tr → List (Int × List Int) → (Int → Int) → Option (Int → Int)
  | [], _, o => some o
  | _ :: _, [], o => some o
  | t :: ts, e :: es, o => match putL (busyP o (atL f t)) o e.2 with
    | none => none
    | some o1 => match vis f t o1 with
      | none => none
      | some o2 => viss f ts es o2
end

/-- No two of a list in one register. -/
def inj (o : Int → Int) (l : List Int) : Prop := ∀ a ∈ l, ∀ b ∈ l, a ≠ b → o a ≠ o b
theorem inj.sub {o : Int → Int} {l m : List Int} (h : inj o l) (hs : ∀ v ∈ m, v ∈ l) : inj o m := fun a ha b hb => h a (hs a ha) b (hs b hb)
theorem inj.congr {o o' : Int → Int} {l : List Int} (h : inj o l) (hs : ∀ v ∈ l, o' v = o v) : inj o' l := fun a ha b hb hne => by rw [hs a ha, hs b hb]; exact h a ha b hb hne
theorem nums_nodup (n : Nat) : (nums n).Nodup := by
  unfold nums
  refine List.pairwise_map.2 ((List.nodup_range (n := n)).imp fun h q => h (by omega))
theorem inj_len {o : Int → Int} {l : List Int} {n : Nat} (hn : l.Nodup) (h : inj o l) (hr : ∀ v ∈ l, 0 ≤ o v ∧ o v < (n : Int)) : l.length ≤ n := by
  have hn' : (l.map o).Nodup := by
    refine List.pairwise_map.2 ?_
    exact hn.imp_of_mem fun ha hb hne => h _ ha _ hb hne
  have := List.Nodup.length_le_of_subset (l₂ := nums n) hn' fun x hx => by
    obtain ⟨v, hv, rfl⟩ := List.mem_map.1 hx
    exact mem_nums.2 (hr v hv)
  simpa [nums_len] using this

theorem putL_gen : ∀ (e : List Int) (b : Int → Bool) (o : Int → Int) (D : List Int), (∀ r, b r = true ↔ ∃ v ∈ D, o v = r) → (∀ v ∈ D, 0 ≤ o v ∧ o v < 16) → inj o D → (D ++ e).Nodup →
    (putL b o e = none → 16 < (D ++ e).length) ∧ ∀ o', putL b o e = some o' → (∀ v, v ∉ e → o' v = o v) ∧ (∀ v ∈ e, 0 ≤ o' v ∧ o' v < 16 ∧ o' v + 1 ≤ (D ++ e).length) ∧ inj o' (D ++ e)
  | [], b, o, D, hb, hr, hi, hn => by
    refine ⟨fun q => by simp [putL] at q, fun o' q => ?_⟩
    simp only [putL, Option.some.injEq] at q
    subst q
    exact ⟨fun _ _ => rfl, (fun v hv => by cases hv), by simpa using hi⟩
  | v :: e, b, o, D, hb, hr, hi, hn => by
    have hq : freeR b ≤ D.length := by
      have := List.Nodup.length_le_of_subset (l₂ := D.map o) (nums_nodup (freeR b)) fun x hx => by
        obtain ⟨h0, h1⟩ := mem_nums.1 hx
        have h2 := freeR_lt (b := b) (j := x.toNat) (by omega)
        rw [Int.toNat_of_nonneg h0] at h2
        obtain ⟨w, hw, e⟩ := (hb x).1 h2
        exact List.mem_map.2 ⟨w, hw, e⟩
      simpa [nums_len] using this
    simp only [putL]
    split
    · rename_i h16
      refine ⟨fun _ => by rw [List.length_append, List.length_cons]; omega, fun o' q => by cases q⟩
    · rename_i h16
      have hlt : freeR b < 16 := by have := freeR_le b; omega
      have hvD : v ∉ D := fun q => (List.nodup_append.1 hn).2.2 v q v (by simp) rfl
      have hve : v ∉ e := (List.nodup_cons.1 (List.nodup_append.1 hn).2.1).1
      have hbf := freeR_at hlt
      have hfr : ∀ w ∈ D, o w ≠ (freeR b : Nat) := fun w hw q => by
        rw [(hb _).2 ⟨w, hw, q⟩] at hbf; cases hbf
      have ho1 : ∀ w ∈ D, (if w = v then ((freeR b : Nat) : Int) else o w) = o w := fun w hw => if_neg fun q => hvD (by rw [← q]; exact hw)
      have ih := putL_gen e (fun i => if i = (freeR b : Nat) then true else b i) (fun i => if i = v then (freeR b : Nat) else o i) (D ++ [v]) (fun r => ?_) (fun w hw => ?_) (fun x hx y hy hne => ?_) (by simpa using hn)
      · have el : (D ++ [v] ++ e) = D ++ v :: e := by simp
        rw [el] at ih
        refine ⟨ih.1, fun o' q => ?_⟩
        obtain ⟨i1, i2, i3⟩ := ih.2 o' q
        refine ⟨fun w hw => ?_, fun w hw => ?_, i3⟩
        · rw [i1 w fun q => hw (List.mem_cons_of_mem _ q)]
          exact if_neg fun q => hw (by rw [q]; exact List.mem_cons_self)
        · rcases List.mem_cons.1 hw with rfl | hw
          · rw [i1 w hve, if_pos rfl, List.length_append, List.length_cons]
            omega
          · exact i2 w hw
      · by_cases hrq : r = (freeR b : Nat)
        · simp only [hrq, if_true, true_iff]
          exact ⟨v, by simp, if_pos rfl⟩
        · simp only [hrq, if_false, hb r]
          constructor
          · rintro ⟨w, hw, e⟩
            exact ⟨w, List.mem_append_left _ hw, by rw [ho1 w hw]; exact e⟩
          · rintro ⟨w, hw, e⟩
            rcases List.mem_append.1 hw with hw | hw
            · exact ⟨w, hw, by rw [ho1 w hw] at e; exact e⟩
            · rw [List.mem_singleton.1 hw, if_pos rfl] at e
              exact absurd e.symm hrq
      · rcases List.mem_append.1 hw with hw | hw
        · simp only [ho1 w hw]; exact hr w hw
        · rw [List.mem_singleton.1 hw]; simp only [if_true]; omega
      · simp only
        rcases List.mem_append.1 hx with hx | hx
        · rcases List.mem_append.1 hy with hy | hy
          · rw [ho1 x hx, ho1 y hy]; exact hi x hx y hy hne
          · rw [ho1 x hx, List.mem_singleton.1 hy, if_pos rfl]; exact hfr x hx
        · rcases List.mem_append.1 hy with hy | hy
          · rw [ho1 y hy, List.mem_singleton.1 hx, if_pos rfl]; exact fun q => hfr y hy q.symm
          · rw [List.mem_singleton.1 hx, List.mem_singleton.1 hy] at hne; exact absurd rfl hne
theorem putL_ok {o : Int → Int} {l e : List Int} (hl : l.Nodup) (he : e.Nodup) (hneg : ∀ v ∈ e, o v < 0) (hr : ∀ v ∈ l, v ∉ e → 0 ≤ o v ∧ o v < 16) (hi : ∀ a ∈ l, a ∉ e → ∀ b ∈ l, b ∉ e → a ≠ b → o a ≠ o b) :
    (putL (busyP o l) o e = none → 16 < (un l e).length) ∧ ∀ o', putL (busyP o l) o e = some o' → (∀ v, v ∉ e → o' v = o v) ∧ (∀ v ∈ e, 0 ≤ o' v ∧ o' v < 16 ∧ o' v + 1 ≤ (un l e).length) ∧ inj o' (un l e) := by
  have hmD : ∀ v, v ∈ (l.filter fun v => !decide (v ∈ e)) ↔ v ∈ l ∧ v ∉ e := fun v => by simp
  have hnd : ((l.filter fun v => !decide (v ∈ e)) ++ e).Nodup := List.nodup_append.2 ⟨hl.filter _, he, fun a ha b hb q => ((hmD a).1 ha).2 (q ▸ hb)⟩
  have hsub : ∀ v, v ∈ (l.filter fun v => !decide (v ∈ e)) ++ e ↔ v ∈ un l e := fun v => by
    rw [List.mem_append, hmD, mem_un]
    by_cases h : v ∈ e <;> simp [h]
  have hlen : ((l.filter fun v => !decide (v ∈ e)) ++ e).length ≤ (un l e).length := List.Nodup.length_le_of_subset hnd fun v hv => (hsub v).1 hv
  have hG := putL_gen e (busyP o l) o (l.filter fun v => !decide (v ∈ e)) (fun r => ?_) (fun v hv => hr v ((hmD v).1 hv).1 ((hmD v).1 hv).2) (fun a ha b hb => hi a ((hmD a).1 ha).1 ((hmD a).1 ha).2 b ((hmD b).1 hb).1 ((hmD b).1 hb).2) hnd
  · obtain ⟨h1, h2⟩ := hG
    refine ⟨fun q => by have := h1 q; omega, fun o' q => ?_⟩
    obtain ⟨i1, i2, i3⟩ := h2 o' q
    exact ⟨i1, fun v hv => by have := i2 v hv; omega, i3.sub fun v hv => (hsub v).2 hv⟩
  · unfold busyP
    rw [List.any_eq_true]
    constructor
    · rintro ⟨v, hv, e1⟩
      simp only [Bool.and_eq_true, decide_eq_true_eq] at e1
      refine ⟨v, (hmD v).2 ⟨hv, fun q => ?_⟩, e1.2⟩
      have := hneg v q
      omega
    · rintro ⟨v, hv, e1⟩
      have := hr v ((hmD v).1 hv).1 ((hmD v).1 hv).2
      exact ⟨v, ((hmD v).1 hv).1, by simp [e1]; omega⟩

/-- What the visit of a tree gives. -/
def VisOk (f : LFun) (sc : List Int) (t : Tr) : Prop := VN f (sc ++ bnd f t) → ∀ o : Int → Int, (∀ v, inSc f sc v → 0 ≤ o v ∧ o v < 16) → (∀ v ∈ bnd f t, o v = -1) → inj o (atL f t) →
  (vis f t o = none → ∃ x ∈ setsL f t, 16 < x.length) ∧ ∀ o', vis f t o = some o' → (∀ v, v ∉ bnd f t → o' v = o v) ∧ (∀ v ∈ bnd f t, 0 ≤ o' v ∧ o' v < 16 ∧ ∃ x ∈ setsL f t, o' v + 1 ≤ x.length) ∧ ∀ x ∈ setsL f t, inj o' x
theorem VN.left {f : LFun} {a b : List Int} (h : VN f (a ++ b)) : VN f a := ⟨(List.nodup_append.1 h.1).1, fun x hx => h.2 x (List.mem_append_left _ hx)⟩
theorem VN.right {f : LFun} {a b : List Int} (h : VN f (a ++ b)) : VN f b := ⟨(List.nodup_append.1 h.1).2.1, fun x hx => h.2 x (List.mem_append_right _ hx)⟩
theorem VN.ne {f : LFun} {a b : List Int} (h : VN f (a ++ b)) {x : Int} (ha : x ∈ a) (hb : x ∈ b) : False := (List.nodup_append.1 h.1).2.2 x ha x hb rfl
theorem inSc_ne {f : LFun} {sc b : List Int} (h : VN f (sc ++ b)) {v : Int} (hs : inSc f sc v) : v ∉ b := fun q => by
  rcases hs.2.2 with h1 | h1
  · have := (h.right.2 v q).2.1; omega
  · exact h.ne h1 q

theorem viss_ok {f : LFun} {sc : List Int} : ∀ (ts : List Tr) (es : List (Int × List Int)), ts.length = es.length → (∀ k (hk : k < ts.length) (hk' : k < es.length), Ok f (sc ++ es[k].2) ts[k] ∧ VisOk f (sc ++ es[k].2) ts[k]) →
    VN f (sc ++ bnds f ts es) → ∀ o : Int → Int, (∀ v, inSc f sc v → 0 ≤ o v ∧ o v < 16) → (∀ v ∈ bnds f ts es, o v = -1) →
    (∀ k (hk : k < ts.length) (hk' : k < es.length), ∀ a ∈ atL f ts[k], a ∉ es[k].2 → ∀ b ∈ atL f ts[k], b ∉ es[k].2 → a ≠ b → o a ≠ o b) →
    (viss f ts es o = none → ∃ x ∈ setsC f ts es, 16 < x.length) ∧ ∀ o', viss f ts es o = some o' → (∀ v, v ∉ bnds f ts es → o' v = o v) ∧ (∀ v ∈ bnds f ts es, 0 ≤ o' v ∧ o' v < 16 ∧ ∃ x ∈ setsC f ts es, o' v + 1 ≤ x.length) ∧ ∀ x ∈ setsC f ts es, inj o' x
  | [], es, hl, hk, hv, o, hi, hneg, hj => by
    refine ⟨fun q => by simp [viss] at q, fun o' q => ?_⟩
    simp only [viss, Option.some.injEq] at q
    subst q
    exact ⟨fun _ _ => rfl, fun v hv => by simp [bnds] at hv, fun x hx => by simp [setsC] at hx⟩
  | _ :: _, [], hl, hk, hv, o, hi, hneg, hj => by simp at hl
  | t :: ts, e :: es, hl, hk, hv, o, hi, hneg, hj => by
    obtain ⟨hok, hvis⟩ := hk 0 (by simp) (by simp)
    simp only [List.getElem_cons_zero] at hok hvis
    rw [bnds] at hv hneg
    have hvA : VN f (sc ++ e.2 ++ bnd f t) := by
      have : VN f ((sc ++ (e.2 ++ bnd f t)) ++ bnds f ts es) := by rw [List.append_assoc]; exact hv
      rw [List.append_assoc]; exact this.left
    have hvB : VN f (sc ++ bnds f ts es) := by
      refine ⟨?_, fun x hx => hv.2 x ?_⟩
      · refine List.Nodup.sublist ?_ hv.1
        exact List.Sublist.append_left (List.sublist_append_right _ _) _
      · rcases List.mem_append.1 hx with q | q
        · exact List.mem_append_left _ q
        · exact List.mem_append_right _ (List.mem_append_right _ q)
    have dis : ∀ v, v ∈ e.2 ∨ v ∈ bnd f t → v ∉ bnds f ts es := fun v q q2 => VN.ne hv.right (List.mem_append.2 q) q2
    have scn : ∀ v, inSc f sc v → v ∉ e.2 ∧ v ∉ bnd f t ∧ v ∉ bnds f ts es := fun v q => by
      have := inSc_ne hv q
      simp only [List.mem_append, not_or] at this
      exact ⟨this.1.1, this.1.2, this.2⟩
    have een : ∀ v ∈ e.2, v ∉ bnd f t := fun v q q2 => hvA.ne (List.mem_append_right _ q) q2
    have atsc : ∀ v ∈ atL f t, v ∉ e.2 → inSc f sc v := fun v q q2 => by
      obtain ⟨a0, a1, a2⟩ := atL_var hok v q
      refine ⟨a0, a1, ?_⟩
      rcases a2 with a2 | a2
      · exact .inl a2
      · rcases List.mem_append.1 a2 with a2 | a2
        · exact .inr a2
        · exact absurd a2 q2
    have hP := putL_ok (o := o) (l := atL f t) (e := e.2) (atL_nums hok).1 hvA.left.right.1 (fun v q => by rw [hneg v (by simp [q])]; decide) (fun v q q2 => hi v (atsc v q q2)) (hj 0 (by simp) (by simp))
    have hU : un (atL f t) e.2 ∈ setsC f (t :: ts) (e :: es) := by rw [setsC]; simp
    have hS : ∀ x ∈ setsL f t, x ∈ setsC f (t :: ts) (e :: es) := fun x q => by rw [setsC]; simp [q]
    have hR : ∀ x ∈ setsC f ts es, x ∈ setsC f (t :: ts) (e :: es) := fun x q => by rw [setsC]; simp [q]
    simp only [viss]
    cases h1 : putL (busyP o (atL f t)) o e.2 with
    | none => exact ⟨fun _ => ⟨_, hU, hP.1 h1⟩, fun o' q => by cases q⟩
    | some o1 =>
      obtain ⟨p1, p2, p3⟩ := hP.2 o1 h1
      have hV := hvis hvA o1 (fun v hs => by
        by_cases q : v ∈ e.2
        · exact ⟨(p2 v q).1, (p2 v q).2.1⟩
        · rw [p1 v q]
          refine hi v ⟨hs.1, hs.2.1, ?_⟩
          rcases hs.2.2 with h | h
          · exact .inl h
          · rcases List.mem_append.1 h with h | h
            · exact .inr h
            · exact absurd h q) (fun v q => by rw [p1 v fun z => een v z q]; exact hneg v (by simp [q])) (p3.sub fun v q => mem_un.2 (.inl q))
      simp only
      cases h2 : vis f t o1 with
      | none =>
        obtain ⟨x, hx, h⟩ := hV.1 h2
        exact ⟨fun _ => ⟨x, hS x hx, h⟩, fun o' q => by cases q⟩
      | some o2 =>
        obtain ⟨v1, v2, v3⟩ := hV.2 o2 h2
        have keep : ∀ v, inSc f sc v → o2 v = o v := fun v q => by rw [v1 v (scn v q).2.1, p1 v (scn v q).1]
        have hI := viss_ok ts es (by simpa using hl) (fun k hk1 hk2 => by
          have h9 := hk (k + 1) (by simpa using hk1) (by simpa using hk2)
          simp only [List.getElem_cons_succ] at h9
          exact h9) hvB o2 (fun v q => by rw [keep v q]; exact hi v q) (fun v q => by
          have hn : v ∉ e.2 ++ bnd f t := fun z => VN.ne hv.right z q
          simp only [List.mem_append, not_or] at hn
          rw [v1 v hn.2, p1 v hn.1]
          exact hneg v (by simp [q])) (fun k hk1 hk2 a ha ha2 b hb hb2 hne => by
          have hok' := (hk (k + 1) (by simpa using hk1) (by simpa using hk2)).1
          simp only [List.getElem_cons_succ] at hok'
          have at2 : ∀ v ∈ atL f ts[k], v ∉ es[k].2 → inSc f sc v := fun v q q2 => by
            obtain ⟨a0, a1, a2⟩ := atL_var hok' v q
            refine ⟨a0, a1, ?_⟩
            rcases a2 with a2 | a2
            · exact .inl a2
            · rcases List.mem_append.1 a2 with a2 | a2
              · exact .inr a2
              · exact absurd a2 q2
          rw [keep a (at2 a ha ha2), keep b (at2 b hb hb2)]
          have := hj (k + 1) (by simpa using hk1) (by simpa using hk2)
          simp only [List.getElem_cons_succ] at this
          exact this a ha ha2 b hb hb2 hne)
        refine ⟨fun q => ?_, fun o' q => ?_⟩
        · obtain ⟨x, hx, h⟩ := hI.1 q
          exact ⟨x, hR x hx, h⟩
        obtain ⟨w1, w2, w3⟩ := hI.2 o' q
        refine ⟨fun v hv' => ?_, fun v hv' => ?_, fun x hx => ?_⟩
        · rw [bnds] at hv'
          simp only [List.mem_append, not_or] at hv'
          rw [w1 v hv'.2, v1 v hv'.1.2, p1 v hv'.1.1]
        · rw [bnds] at hv'
          rcases List.mem_append.1 hv' with q | q
          · have hnr := dis v (List.mem_append.1 q)
            rw [w1 v hnr]
            rcases List.mem_append.1 q with q | q
            · rw [v1 v (een v q)]
              exact ⟨(p2 v q).1, (p2 v q).2.1, _, hU, (p2 v q).2.2⟩
            · obtain ⟨a1, a2, x, hx, a3⟩ := v2 v q
              exact ⟨a1, a2, x, hS x hx, a3⟩
          · obtain ⟨a1, a2, x, hx, a3⟩ := w2 v q
            exact ⟨a1, a2, x, hR x hx, a3⟩
        · rw [setsC] at hx
          rcases List.mem_append.1 hx with hx | hx
          · rcases List.mem_append.1 hx with hx | hx
            · refine (v3 x hx).congr fun v hv' => w1 v ?_
              obtain ⟨h1, h2⟩ := sets_var hok x hx v hv'
              rcases h2 with h2 | h2 | h2
              · exact (scn v ⟨h1.1, h1.2, .inl h2⟩).2.2
              · rcases List.mem_append.1 h2 with h2 | h2
                · exact (scn v ⟨h1.1, h1.2, .inr h2⟩).2.2
                · exact dis v (.inl h2)
              · exact dis v (.inr h2)
            · rw [List.mem_singleton.1 hx]
              refine p3.congr fun v hv' => ?_
              rcases mem_un.1 hv' with h | h
              · by_cases q2 : v ∈ e.2
                · rw [w1 v (dis v (.inl q2)), v1 v (een v q2)]
                · have hs := atsc v h q2
                  rw [w1 v (scn v hs).2.2, v1 v (scn v hs).2.1]
              · rw [w1 v (dis v (.inl h)), v1 v (een v h)]
          · exact w3 x hx
theorem binds_edg {n : LNode} {v : Int} (hv : v ∈ binds n) (hk : 0 < (edg n).length) : ∃ j, ∃ hj : j < (edg n).length, v ∈ (edg n)[j].2 := by
  by_cases h : n.op = 9
  · have h9 : isBind 9 = false := by decide
    simp only [binds, h, h9] at hv
    simp only [Bool.false_eq_true, if_false, if_true] at hv
    obtain ⟨b, hb, hv⟩ := List.mem_flatMap.1 hv
    obtain ⟨j, hj, rfl⟩ := List.getElem_of_mem hb
    refine ⟨j, by simpa [edg, h] using hj, ?_⟩
    rw [(edg_get (by simpa [edg, h] using hj)).2, dif_pos h]
    exact hv
  · refine ⟨0, hk, ?_⟩
    rw [(edg_get hk).2, dif_neg h]
    exact hv
theorem vis_ok {f : LFun} {sc : List Int} {t : Tr} (h : Ok f sc t) : VisOk f sc t := by
  induction h with
  | @node sc a ts ha hu hl hr hs hb ih =>
    intro hv o hi hneg hj
    rw [bnd] at hv
    have hI := viss_ok (f := f) (sc := sc) ts (edg (nodeAt f a)) hl (fun k hk hk' => ⟨hs k hk hk', ih k hk hk'⟩) hv o hi (by rw [bnd] at hneg; exact hneg) (fun k hk hk' x hx hx2 y hy hy2 hne => by
      have key : ∀ v ∈ atL f ts[k], v ∉ (edg (nodeAt f a))[k].2 → v ∈ atL f (.node a ts) := fun v q q2 => by
        obtain ⟨a0, a1, a2⟩ := atL_var (hs k hk hk') v q
        have hsc : inSc f sc v := by
          refine ⟨a0, a1, ?_⟩
          rcases a2 with a2 | a2
          · exact .inl a2
          · rcases List.mem_append.1 a2 with a2 | a2
            · exact .inr a2
            · exact absurd a2 q2
        rw [atL, mem_un]
        refine .inl (List.mem_filter.2 ⟨?_, ?_⟩)
        · rw [afC_eq]
          exact List.mem_flatMap.2 ⟨_, List.getElem_mem hk, q⟩
        · simp only [Bool.not_eq_true', decide_eq_false_iff_not]
          intro hbi
          obtain ⟨j, hj', hv'⟩ := binds_edg hbi (by omega)
          exact inSc_ne hv hsc (bnds_get (f := f) ts (edg (nodeAt f a)) j (by omega) hj' v (.inl hv'))
      exact hj x (key x hx hx2) y (key y hy hy2) hne)
    have e : vis f (.node a ts) o = viss f ts (edg (nodeAt f a)) o := rfl
    rw [e, setsL, bnd]
    refine ⟨fun q => ?_, fun o' q => ?_⟩
    · obtain ⟨x, hx, h⟩ := hI.1 q
      exact ⟨x, List.mem_append_left _ hx, h⟩
    obtain ⟨w1, w2, w3⟩ := hI.2 o' q
    refine ⟨w1, fun v q => ?_, fun x hx => ?_⟩
    · obtain ⟨a1, a2, x, hx, a3⟩ := w2 v q
      exact ⟨a1, a2, x, List.mem_append_left _ hx, a3⟩
    · rcases List.mem_append.1 hx with hx | hx
      · exact w3 x hx
      · rw [List.mem_singleton.1 hx]
        refine hj.congr fun v hv' => w1 v ?_
        exact inSc_ne hv (atL_var (.node ha hu hl hr hs hb) v hv')
end Go.Proofs.Ytbnfcdjlbabddaa

/- Live variables of the normal form. -/
import Derived.Test.YtbnfcdjlbabddaaM2
set_option linter.unusedVariables false
set_option linter.unusedSimpArgs false
namespace Go.Proofs.Ytbnfcdjlbabddaa
open Go.Ev

def Im (ρ : Int → Int) (x y : List Int) : Prop := ∀ w, w ∈ y ↔ ∃ v ∈ x, ρ v = w
theorem im_len {ρ : Int → Int} {x y : List Int} (hx : x.Nodup) (hy : y.Nodup) (hinj : ∀ u ∈ x, ∀ v ∈ x, ρ u = ρ v → u = v) (h : Im ρ x y) : y.length = x.length := by
  have hm : (x.map ρ).Nodup := List.pairwise_map.2 (hx.imp_of_mem fun ha hb hne e => hne (hinj _ ha _ hb e))
  refine Nat.le_antisymm ?_ ?_
  · have := List.Nodup.length_le_of_subset (l₂ := x.map ρ) hy fun w hw => by
      obtain ⟨v, hv, rfl⟩ := (h w).1 hw
      exact List.mem_map.2 ⟨v, hv, rfl⟩
    simpa using this
  · have := List.Nodup.length_le_of_subset (l₂ := y) hm fun w hw => by
      obtain ⟨v, hv, rfl⟩ := List.mem_map.1 hw
      exact (h _).2 ⟨v, hv, rfl⟩
    simpa using this
theorem binds_in {n : LNode} {v : Int} (hv : v ∈ binds n) (hk : 0 < (edg n).length) : ∃ j, ∃ hj : j < (edg n).length, v ∈ (edg n)[j].2 := by
  by_cases h : n.op = 9
  · have h9 : isBind 9 = false := by decide
    simp only [binds, h, h9] at hv
    simp only [Bool.false_eq_true, if_false, if_true] at hv
    obtain ⟨b, hb, hv⟩ := List.mem_flatMap.1 hv
    obtain ⟨j, hj, rfl⟩ := List.getElem_of_mem hb
    refine ⟨j, by simpa [edg, h] using hj, ?_⟩
    rw [(edg_get (by simpa [edg, h] using hj)).2, dif_pos h]
    exact hv
  · refine ⟨0, hk, ?_⟩
    rw [(edg_get hk).2, dif_neg h]
    exact hv

section
variable {f : LFun} {nd vs : List Int}
theorem kn_inj (hp : okP f) (hv : VN f vs) {x : List Int} (h : ∀ v ∈ x, kn f vs v) : ∀ u ∈ x, ∀ v ∈ x, newNo f vs u = newNo f vs v → u = v := fun u hu v hv' e => newNo_inj hp hv (h u hu) (h v hv') e
/-- A tree of the function, within the whole. -/
structure Sub (f : LFun) (nd vs sc : List Int) (t : Tr) : Prop where
  ok : Ok f sc t
  sc : ∀ v ∈ sc, v ∈ vs
  pre : ∀ a ∈ t.pre, a ∈ nd
  bnd : ∀ v ∈ bnd f t, v ∈ vs
theorem Sub.kid {sc : List Int} {a : Int} {ts : List Tr} (h : Sub f nd vs sc (.node a ts)) (hl : ts.length = (edg (nodeAt f a)).length) {k : Nat} (hk : k < ts.length) (hk' : k < (edg (nodeAt f a)).length)
    (hs : Ok f (sc ++ (edg (nodeAt f a))[k].2) ts[k]) : Sub f nd vs (sc ++ (edg (nodeAt f a))[k].2) ts[k] := by
  have hb := h.bnd
  rw [Go.Proofs.Ytbnfcdjlbabddaa.bnd] at hb
  refine ⟨hs, fun v hv => ?_, fun b hb' => h.pre b ?_, fun v hv => hb v ?_⟩
  · rcases List.mem_append.1 hv with q | q
    · exact h.sc v q
    · exact hb v (bnds_get' ts _ hl k hk' v q)
  · rw [Tr.pre, pres_eq]
    exact List.mem_cons_of_mem _ (List.mem_flatMap.2 ⟨_, List.getElem_mem hk, hb'⟩)
  · have key : ∀ (ts : List Tr) (es : List (Int × List Int)) (k : Nat) (hk : k < ts.length) (hk' : k < es.length), ∀ v, v ∈ Go.Proofs.Ytbnfcdjlbabddaa.bnd f ts[k] → v ∈ bnds f ts es := by
      intro ts
      induction ts with
      | nil => intro es k hk; cases hk
      | cons t ts ih =>
        intro es k hk hk' v hv
        cases es with
        | nil => cases hk'
        | cons e es =>
          rw [bnds]
          cases k with
          | zero => exact List.mem_append_left _ (List.mem_append_right _ hv)
          | succ k => exact List.mem_append_right _ (ih es k (by simpa using hk) (by simpa using hk') v hv)
    exact key ts _ k hk hk' v hv
theorem Sub.edg {sc : List Int} {a : Int} {ts : List Tr} (h : Sub f nd vs sc (.node a ts)) (hl : ts.length = (edg (nodeAt f a)).length) (hb : ∀ e ∈ edg (nodeAt f a), ∀ v ∈ e.2, 0 ≤ v ∧ f.params ≤ v ∧ v < (f.vars.length : Int)) : ∀ e ∈ Go.Proofs.Ytbnfcdjlbabddaa.edg (nodeAt f a), ∀ v ∈ e.2, kn f vs v := by
  intro e he v hv
  have hb1 := hb e he v hv
  obtain ⟨j, hj, rfl⟩ := List.getElem_of_mem he
  have hb2 := h.bnd
  rw [Go.Proofs.Ytbnfcdjlbabddaa.bnd] at hb2
  exact ⟨hb1.1, hb1.2.2, .inr (hb2 v (bnds_get' ts _ hl j hj v hv))⟩
theorem inSc_kn {sc : List Int} (hs : ∀ v ∈ sc, v ∈ vs) {v : Int} (h : inSc f sc v) : kn f vs v := ⟨h.1, h.2.1, h.2.2.imp id fun q => hs v q⟩
theorem Sub.at {sc : List Int} {t : Tr} (h : Sub f nd vs sc t) : ∀ v ∈ atL f t, kn f vs v := fun v hv => inSc_kn h.sc (atL_var h.ok v hv)

theorem atL_ren (hnd : nd.Nodup) (hp : okP f) (hv : VN f vs) {sc : List Int} {t : Tr} (h : Ok f sc t) : Sub f nd vs sc t → Im (newNo f vs) (atL f t) (atL (gF f nd vs) (ren (idxOf nd) t)) := by
  induction h with
  | @node sc a ts ha hu hl hr hs hb ih =>
    intro hS
    have han : a ∈ nd := hS.pre a (by simp [Tr.pre])
    have hed := hS.edg hl hb
    have hku : ∀ v ∈ uses (nodeAt f a), kn f vs v := fun v hv' => inSc_kn hS.sc (hu v hv')
    have hnode := gF_node (vs := vs) (f := f) hnd han
    intro w
    rw [ren, atL, atL, mem_un, hnode, gN_uses hp hv hku, gN_binds' hed, rens_eq, List.mem_filter, afC_eq, List.flatMap_map, List.mem_flatMap]
    constructor
    · rintro (⟨⟨t, ht, hw⟩, hnb⟩ | hwu)
      · obtain ⟨k, hk, rfl⟩ := List.getElem_of_mem ht
        have hk' : k < (edg (nodeAt f a)).length := by omega
        obtain ⟨v, hv1, rfl⟩ := (ih k hk hk' (hS.kid hl hk hk' (hs k hk hk')) w).1 hw
        refine ⟨v, ?_, rfl⟩
        rw [mem_un, List.mem_filter, afC_eq]
        refine .inl ⟨List.mem_flatMap.2 ⟨_, ht, hv1⟩, ?_⟩
        have : newNo f vs v ∉ (binds (nodeAt f a)).map (newNo f vs) := by simpa using hnb
        have h2 : v ∉ binds (nodeAt f a) := fun q => this (List.mem_map.2 ⟨v, q, rfl⟩)
        simpa using h2
      · obtain ⟨u, hu', rfl⟩ := List.mem_map.1 hwu
        refine ⟨u, ?_, rfl⟩
        rw [mem_un]; exact .inr hu'
    · rintro ⟨v, hv1, rfl⟩
      rw [mem_un, List.mem_filter, afC_eq] at hv1
      rcases hv1 with ⟨h1, h2⟩ | h1
      · obtain ⟨t, ht, h1⟩ := List.mem_flatMap.1 h1
        obtain ⟨k, hk, rfl⟩ := List.getElem_of_mem ht
        have hk' : k < (edg (nodeAt f a)).length := by omega
        have hSk := hS.kid hl hk hk' (hs k hk hk')
        refine .inl ⟨⟨_, ht, (ih k hk hk' hSk _).2 ⟨v, h1, rfl⟩⟩, ?_⟩
        have h2' : v ∉ binds (nodeAt f a) := by simpa using h2
        have : newNo f vs v ∉ (binds (nodeAt f a)).map (newNo f vs) := fun q => by
          obtain ⟨u, hu', e⟩ := List.mem_map.1 q
          obtain ⟨j, hj, hju⟩ := binds_in hu' (by omega)
          exact h2' (newNo_inj hp hv (hed _ (List.getElem_mem hj) u hju) (hSk.at v h1) e ▸ hu')
        simpa using this
      · exact .inr (List.mem_map.2 ⟨v, h1, rfl⟩)
theorem atL_nd (f : LFun) (t : Tr) : (atL f t).Nodup := by cases t; rw [atL]; exact un_nodup _ _
theorem un_ren {ρ : Int → Int} {x y l : List Int} (h : Im ρ x y) : Im ρ (un x l) (un y (l.map ρ)) := by
  intro w
  rw [mem_un, h w, List.mem_map]
  constructor
  · rintro (⟨v, hv, rfl⟩ | ⟨v, hv, rfl⟩)
    · exact ⟨v, mem_un.2 (.inl hv), rfl⟩
    · exact ⟨v, mem_un.2 (.inr hv), rfl⟩
  · rintro ⟨v, hv, rfl⟩
    rcases mem_un.1 hv with q | q
    · exact .inl ⟨v, q, rfl⟩
    · exact .inr ⟨v, q, rfl⟩
theorem setsC_ren {g : LFun} {σ : Int → Int} {φ : (Int × List Int) → (Int × List Int)} : ∀ (ts : List Tr) (es : List (Int × List Int)), ts.length = es.length → (∀ k (hk : k < ts.length) (hk' : k < es.length), (setsL g (ren σ ts[k])).map List.length = (setsL f ts[k]).map List.length ∧ (un (atL g (ren σ ts[k])) (φ es[k]).2).length = (un (atL f ts[k]) es[k].2).length) →
    (setsC g (rens σ ts) (es.map φ)).map List.length = (setsC f ts es).map List.length
  | [], _, _, _ => by simp [rens, setsC]
  | t :: ts, [], h, _ => by simp at h
  | t :: ts, e :: es, h, H => by
    rw [rens, List.map_cons, setsC, setsC]
    have h0 := H 0 (by simp) (by simp)
    have h1 := setsC_ren (g := g) (σ := σ) (φ := φ) ts es (by simpa using h) fun k hk hk' => H (k + 1) (by simpa using hk) (by simpa using hk')
    simp only [List.map_append, List.map_cons, List.map_nil]
    rw [h1]
    simp only [List.getElem_cons_zero] at h0
    rw [h0.1, h0.2]
theorem sets_ren (hnd : nd.Nodup) (hp : okP f) (hv : VN f vs) {sc : List Int} {t : Tr} (h : Ok f sc t) : Sub f nd vs sc t → (setsL (gF f nd vs) (ren (idxOf nd) t)).map List.length = (setsL f t).map List.length := by
  induction h with
  | @node sc a ts ha hu hl hr hs hb ih =>
    intro hS
    have han : a ∈ nd := hS.pre a (by simp [Tr.pre])
    have hed := hS.edg hl hb
    have hnode := gF_node (vs := vs) (f := f) hnd han
    have hat := atL_ren hnd hp hv hS.ok hS
    have hlen := im_len (atL_nd _ _) (atL_nd _ _) (kn_inj hp hv hS.at) hat
    rw [ren] at hlen ⊢
    rw [setsL, setsL, List.map_append, List.map_append, hnode, gN_edg hed]
    rw [setsC_ren ts _ hl fun k hk hk' => ?_]
    · simp only [List.map_cons, List.map_nil]
      rw [hlen]
    · have hSk := hS.kid hl hk hk' (hs k hk hk')
      refine ⟨ih k hk hk' hSk, ?_⟩
      refine im_len (un_nodup _ _) (un_nodup _ _) (kn_inj hp hv fun v hv' => ?_) (un_ren (atL_ren hnd hp hv hSk.ok hSk))
      rcases mem_un.1 hv' with q | q
      · exact hSk.at v q
      · exact hed _ (List.getElem_mem hk') v q
theorem atM_ren (hnd : nd.Nodup) (hp : okP f) (hv : VN f vs) {sc : List Int} {t : Tr} (h : Ok f sc t) : Sub f nd vs sc t → ∀ p ∈ atM f t, ∃ l', (idxOf nd p.1, l') ∈ atM (gF f nd vs) (ren (idxOf nd) t) ∧ l'.length = p.2.length ∧ (∀ v ∈ p.2, kn f vs v) ∧ ∀ v ∈ p.2, newNo f vs v ∈ l' := by
  induction h with
  | @node sc a ts ha hu hl hr hs hb ih =>
    intro hS p hp'
    rw [ren, atM]
    rw [atM] at hp'
    rcases List.mem_append.1 hp' with q | q
    · rw [atMs_eq] at q
      obtain ⟨t, ht, q⟩ := List.mem_flatMap.1 q
      obtain ⟨k, hk, rfl⟩ := List.getElem_of_mem ht
      have hk' : k < (edg (nodeAt f a)).length := by omega
      obtain ⟨l', h1, h2⟩ := ih k hk hk' (hS.kid hl hk hk' (hs k hk hk')) p q
      refine ⟨l', List.mem_append_left _ ?_, h2⟩
      rw [atMs_eq, rens_eq]
      exact List.mem_flatMap.2 ⟨_, List.mem_map.2 ⟨_, ht, rfl⟩, h1⟩
    · rw [List.mem_singleton.1 q]
      have hat := atL_ren hnd hp hv hS.ok hS
      refine ⟨_, List.mem_append_right _ (List.mem_singleton.2 rfl), ?_, hS.at, fun v hv' => ?_⟩
      · have := im_len (atL_nd _ _) (atL_nd _ _) (kn_inj hp hv hS.at) hat
        rw [ren] at this
        exact this
      · have := (hat (newNo f vs v)).2 ⟨v, hv', rfl⟩
        rw [ren] at this
        exact this
end
theorem sub_all {f : LFun} {t : Tr} (ht : treeS f = some t) : Sub f t.pre (bnd f t) [] t := ⟨(treeS_ok ht).1, (fun v q => by cases q), (fun a h => h), fun v h => h⟩
theorem tree_vn {f : LFun} {t : Tr} (h : treeS f = some t) : VN f (bnd f t) := by
  obtain ⟨_, _, nd, vs, hS⟩ := treeS_some h
  obtain ⟨_, h2, _⟩ := shapeS_props hS
  obtain ⟨_, _, _, rfl, _⟩ := shapeS_ok hS
  exact h2
theorem wid_gF {f : LFun} {t : Tr} (ht : treeS f = some t) : widS (allS (gF f t.pre (bnd f t)) (ren (idxOf t.pre) t)) = widS (allS f t) := by
  obtain ⟨hok, _, hnp, _, hp⟩ := treeS_ok ht
  have h := sets_ren hnp hp (tree_vn ht) hok (sub_all ht)
  unfold widS allS
  rw [List.map_cons, List.map_cons, h]
  rfl
end Go.Proofs.Ytbnfcdjlbabddaa

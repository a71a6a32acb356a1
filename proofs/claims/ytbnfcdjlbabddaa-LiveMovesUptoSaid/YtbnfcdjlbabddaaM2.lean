/- The normal form's tree. -/
import Derived.Test.YtbnfcdjlbabddaaM1
set_option linter.unusedVariables false
set_option linter.unusedSimpArgs false
namespace Go.Proofs.Ytbnfcdjlbabddaa
open Go.Ev

mutual
def ren (σ : Int → Int) : Tr → Tr
  | .node a ts => .node (σ a) (rens σ ts)
def rens (σ : Int → Int) : List Tr → List Tr
  | [] => []
  | t :: ts => ren σ t :: rens σ ts
end
theorem rens_eq (σ : Int → Int) : ∀ ts : List Tr, rens σ ts = ts.map (ren σ)
  | [] => rfl
  | t :: ts => by rw [rens, rens_eq σ ts]; rfl

theorem bnds_get' {f : LFun} : ∀ (ts : List Tr) (es : List (Int × List Int)), ts.length = es.length → ∀ (k : Nat) (hk' : k < es.length), ∀ v, v ∈ es[k].2 → v ∈ bnds f ts es
  | [], [], _, k, hk, _, _ => by cases hk
  | t :: ts, e :: es, _, 0, _, v, hv => by
    rw [bnds]
    exact List.mem_append_left _ (List.mem_append_left _ hv)
  | t :: ts, e :: es, hl, k + 1, hk', v, hv => by
    rw [bnds]
    exact List.mem_append_right _ (bnds_get' ts es (by simpa using hl) k (by simpa using hk') v hv)
section
variable {f : LFun} {nd vs : List Int}
theorem newV_g (hp : okP f) (hv : VN f vs) {vars pre : List Int} {v : Int} (hvars : ∀ u ∈ vars, u ∈ vs) (hpre : ∀ u ∈ pre, u ∈ vs) (hvs : v ∈ vs) (h : newV f (bdP f vars) pre v) :
    newV (gF f nd vs) (bdP (gF f nd vs) (vars.map (newNo f vs))) (pre.map (newNo f vs)) (newNo f vs v) := by
  have hkn : ∀ u ∈ vs, kn f vs u := fun u hu => ⟨(hv.2 u hu).1, (hv.2 u hu).2.2, .inr hu⟩
  obtain ⟨a1, a2, a3, a4⟩ := newNo_rng hp hv (hkn v hvs)
  obtain ⟨h0, h1, h2, h3⟩ := h
  rw [bdP_false] at h2
  refine ⟨a1, by rw [gF_vars hp]; omega, bdP_false.2 ⟨?_, ?_⟩, ?_⟩
  · show f.params ≤ _
    have := (hv.2 v hvs).2.1
    rcases Int.lt_or_le (newNo f vs v) f.params with q | q
    · have := a3.1 q; omega
    · exact q
  · intro q
    obtain ⟨u, hu, e⟩ := List.mem_map.1 q
    exact h2.2 (newNo_inj hp hv (hkn u (hvars u hu)) (hkn v hvs) e ▸ hu)
  · intro q
    obtain ⟨u, hu, e⟩ := List.mem_map.1 q
    exact h3 (newNo_inj hp hv (hkn u (hpre u hu)) (hkn v hvs) e ▸ hu)
theorem okB_g (hp : okP f) (hv : VN f vs) {vars l : List Int} (hvars : ∀ u ∈ vars, u ∈ vs) (hl : ∀ u ∈ l, u ∈ vs) (h : okB f (bdP f vars) l) : okB (gF f nd vs) (bdP (gF f nd vs) (vars.map (newNo f vs))) (l.map (newNo f vs)) := by
  intro k hk
  have hk' : k < l.length := by simpa using hk
  have := newV_g (nd := nd) hp hv hvars (fun u hu => hl u (List.mem_of_mem_take hu)) (hl _ (List.getElem_mem hk')) (h k hk')
  rw [List.getElem_map, ← List.map_take]
  exact this

theorem shK_gF (hnd : nd.Nodup) (hp : okP f) (hv : VN f vs) {n m : Nat} {sc : List Int}
    (ih : ∀ (a : Int) (sc nodes vars : List Int) (t : Tr) (nodes' vars' : List Int), (0 ≤ a ∧ a < (f.code.length : Int) ∧ a ∉ nodes) → Nums f.code.length nodes → VN f vars → (∀ v ∈ sc, v ∈ vars) → shV f n a sc nodes vars = some (t, nodes', vars') → (∀ x ∈ nodes', x ∈ nd) → (∀ x ∈ vars', x ∈ vs) → t.size ≤ m →
      shV (gF f nd vs) m (idxOf nd a) (sc.map (newNo f vs)) (nodes.map (idxOf nd)) (vars.map (newNo f vs)) = some (ren (idxOf nd) t, nodes'.map (idxOf nd), vars'.map (newNo f vs))) :
    ∀ (E : List (Int × List Int)) (nodes vars : List Int) (ts : List Tr) (nodes' vars' : List Int), Nums f.code.length nodes → VN f vars → (∀ v ∈ sc, v ∈ vars) → shK (shV f n) f sc E nodes vars = some (ts, nodes', vars') → (∀ x ∈ nodes', x ∈ nd) → (∀ x ∈ vars', x ∈ vs) → sizes ts ≤ m →
      shK (shV (gF f nd vs) m) (gF f nd vs) (sc.map (newNo f vs)) (E.map fun e => (idxOf nd e.1, e.2.map (newNo f vs))) (nodes.map (idxOf nd)) (vars.map (newNo f vs)) = some (rens (idxOf nd) ts, nodes'.map (idxOf nd), vars'.map (newNo f vs))
  | [], nodes, vars, ts, nodes', vars', hn, hvv, hsc, e, h1, h2, h3 => by
    simp only [shK] at e
    cases e
    simp only [shK, List.map_nil, rens]
  | (k, l) :: r, nodes, vars, ts, nodes', vars', hn, hvv, hsc, e, h1, h2, h3 => by
    simp only [shK] at e
    split at e
    · rename_i hc
      split at e
      · rename_i t nd1 vs1 he
        simp only [Option.map_eq_some_iff] at e
        obtain ⟨⟨ts', nd', vs'⟩, h4, h5⟩ := e
        cases h5
        obtain ⟨p1, p2, p3, p4⟩ := shV_props _ _ _ _ _ _ _ _ hc.1 hn (hvv.app hc.2) he
        obtain ⟨q1, q2, q3, q4⟩ := shK_props (fun a sc nodes vars t nd vs => shV_props n a sc nodes vars t nd vs) r nd1 vs1 _ _ _ p1 p2 h4
        have hk : k ∈ nd := h1 k (q3.subset (p3.subset (by simp)))
        have hno : ∀ x ∈ nodes, x ∈ nd := fun x hx => h1 x (q3.subset (p3.subset (List.mem_append_left _ hx)))
        have hva : ∀ x ∈ vars ++ l, x ∈ vs := fun x hx => h2 x (q4.subset (p4.subset hx))
        simp only [sizes] at h3
        have hs1 := ih k (sc ++ l) nodes (vars ++ l) t nd1 vs1 hc.1 hn (hvv.app hc.2) (fun v hv => by
          rcases List.mem_append.1 hv with z | z
          · exact List.mem_append_left _ (hsc v z)
          · exact List.mem_append_right _ z) he (fun x hx => h1 x (q3.subset hx)) (fun x hx => h2 x (q4.subset hx)) (by omega)
        have hs2 := shK_gF hnd hp hv ih r nd1 vs1 ts' nd' vs' p1 p2 (fun v hv => p4.subset (List.mem_append_left _ (hsc v hv))) h4 h1 h2 (by omega)
        rw [List.map_cons]
        have hi := idxOf_ge.2 hk
        have hi2 := idxOf_lt hk hnd
        have hcond : (0 ≤ idxOf nd k ∧ idxOf nd k < ((gF f nd vs).code.length : Int) ∧ idxOf nd k ∉ nodes.map (idxOf nd)) ∧ okB (gF f nd vs) (bdP (gF f nd vs) (vars.map (newNo f vs))) (l.map (newNo f vs)) := by
          refine ⟨⟨hi, by rw [gF_code]; exact hi2, fun q => ?_⟩, okB_g hp hv (fun u hu => hva u (List.mem_append_left _ hu)) (fun u hu => hva u (List.mem_append_right _ hu)) hc.2⟩
          obtain ⟨y, hy, e⟩ := List.mem_map.1 q
          exact hc.1.2.2 (idxOf_inj hnd (hno y hy) hk e ▸ hy)
        rw [List.map_append, List.map_append] at hs1
        rw [shK_some hcond hs1, hs2]
        rfl
      · cases e
    · cases e
theorem shV_gF (hnd : nd.Nodup) (hp : okP f) (hv : VN f vs) : ∀ (n : Nat) (a : Int) (sc nodes vars : List Int) (t : Tr) (nodes' vars' : List Int), (0 ≤ a ∧ a < (f.code.length : Int) ∧ a ∉ nodes) → Nums f.code.length nodes → VN f vars → (∀ v ∈ sc, v ∈ vars) → shV f n a sc nodes vars = some (t, nodes', vars') → (∀ x ∈ nodes', x ∈ nd) → (∀ x ∈ vars', x ∈ vs) → ∀ m, t.size ≤ m →
      shV (gF f nd vs) m (idxOf nd a) (sc.map (newNo f vs)) (nodes.map (idxOf nd)) (vars.map (newNo f vs)) = some (ren (idxOf nd) t, nodes'.map (idxOf nd), vars'.map (newNo f vs))
  | 0, _, _, _, _, _, _, _, _, _, _, _, e, _, _, _, _ => by cases e
  | n + 1, a, sc, nodes, vars, t, nodes', vars', ha, hn, hvv, hsc, e, h1, h2, m, hm => by
    have hprops := shV_props (n + 1) a sc nodes vars t nodes' vars' ha hn hvv e
    simp only [shV] at e
    split at e
    · rename_i hu
      simp only [Option.map_eq_some_iff] at e
      obtain ⟨⟨ts, nd', vs'⟩, h4, h5⟩ := e
      cases h5
      obtain ⟨p1, p2, p3, p4⟩ := hprops
      simp only [Tr.size] at hm
      obtain ⟨m, rfl⟩ : ∃ k, m = k + 1 := ⟨m - 1, by omega⟩
      have han : a ∈ nd := h1 a (p3.subset (by simp))
      have hvars : ∀ x ∈ vars, x ∈ vs := fun x hx => h2 x (p4.subset hx)
      have hkn : ∀ v ∈ uses (nodeAt f a), kn f vs v := fun v hv' => by
        obtain ⟨i0, i1, i2⟩ := hu v hv'
        exact ⟨i0, i1, i2.imp id fun q => hvars v (hsc v q)⟩
      have hok := shK_ok (fun a sc nodes vars t nd vs => shV_ok n a sc nodes vars t nd vs) _ _ _ _ _ _ h4
      have hed : ∀ e ∈ edg (nodeAt f a), ∀ v ∈ e.2, kn f vs v := fun e he v hv' => by
        have hl := hok.1
        obtain ⟨_, _, _, hb, _, hvs⟩ := hok
        have hb1 := hb e he v hv'
        refine ⟨hb1.1, hb1.2.2, .inr ?_⟩
        obtain ⟨j, hj, rfl⟩ := List.getElem_of_mem he
        have : v ∈ bnds f ts (edg (nodeAt f a)) := bnds_get' ts _ hl j hj v hv'
        exact h2 v (by rw [hvs]; exact List.mem_append_right _ this)
      have hs := shK_gF hnd hp hv (fun a sc nodes vars t nd2 vs2 q1 q2 q3 q4 q5 q6 q7 q8 => shV_gF hnd hp hv n a sc nodes vars t nd2 vs2 q1 q2 q3 q4 q5 q6 q7 m q8) _ (nodes ++ [a]) vars ts nd' vs' (hn.snoc ha.2.2 ⟨ha.1, ha.2.1⟩) hvv hsc h4 h1 h2 (by omega)
      have hnode := gF_node (vs := vs) (f := f) hnd han
      have hug : ∀ v ∈ uses (nodeAt (gF f nd vs) (idxOf nd a)), inSc (gF f nd vs) (sc.map (newNo f vs)) v := by
        rw [hnode, gN_uses hp hv hkn]
        intro v hv'
        obtain ⟨u, hu', rfl⟩ := List.mem_map.1 hv'
        obtain ⟨a1, a2, a3, a4⟩ := newNo_rng hp hv (hkn u hu')
        refine ⟨a1, by rw [gF_vars hp]; exact a2, ?_⟩
        rcases (hu u hu').2.2 with q | q
        · exact .inl (a3.2 q)
        · exact .inr (List.mem_map.2 ⟨u, q, rfl⟩)
      rw [shV_yes hug, hnode, gN_edg hed]
      rw [List.map_append] at hs
      simp only [List.map_cons, List.map_nil] at hs
      rw [hs]
      rfl
    · cases e
end
theorem treeS_gF {f : LFun} {t : Tr} (ht : treeS f = some t) : treeS (gF f t.pre (bnd f t)) = some (ren (idxOf t.pre) t) := by
  obtain ⟨hok, hroot, hnp, hsz, hpo⟩ := treeS_ok ht
  obtain ⟨hp, he, nd, vs, hS⟩ := treeS_some ht
  obtain ⟨_, _, rfl, rfl, _⟩ := shapeS_ok hS
  obtain ⟨_, hvn, hbd⟩ := shapeS_props hS
  have hb : 0 ≤ f.body ∧ f.body < (f.code.length : Int) := by
    unfold shapeS at hS
    split at hS
    · rename_i q; exact q
    · cases hS
  have hV : shV f (f.code.length + 1) f.body [] [] [] = some (t, t.pre, bnd f t) := by
    unfold shapeS at hS
    rw [if_pos hb] at hS; exact hS
  have h := shV_gF hnp hp hvn _ _ _ _ _ _ _ _ ⟨hb.1, hb.2, by simp⟩ (Nums.nil _) (VN.nil _) (fun v q => by cases q) hV (fun x hx => hx) (fun x hx => hx) (t.pre.length + 1) (by rw [pre_len]; omega)
  have hz : idxOf t.pre f.body = 0 := by
    rw [← hroot]
    cases t with
    | node a ts =>
      have := idxOf_at (l := Tr.pre (.node a ts)) hnp (k := 0) (by simp [Tr.pre])
      simpa [Tr.pre, Tr.root] using this
  have hl : 0 < t.pre.length := List.length_pos_of_mem hbd
  have hpg : okP (gF f t.pre (bnd f t)) := ⟨hp.1, by rw [gF_vars hp]; show f.params ≤ _; omega⟩
  have hSg : shapeS (gF f t.pre (bnd f t)) = some (ren (idxOf t.pre) t, t.pre.map (idxOf t.pre), (bnd f t).map (newNo f (bnd f t))) := by
    unfold shapeS
    rw [gF_code, if_pos (by show (0 : Int) ≤ 0 ∧ (0 : Int) < _; omega)]
    show shV _ _ 0 _ _ _ = _
    rw [hz] at h
    exact h
  unfold treeS
  rw [if_pos ⟨hpg, he⟩, hSg]
  rfl
end Go.Proofs.Ytbnfcdjlbabddaa

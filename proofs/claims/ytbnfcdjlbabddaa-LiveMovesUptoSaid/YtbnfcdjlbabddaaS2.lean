/- The tree of a function's nodes, and the variables that are live in it. -/
import Derived.Test.YtbnfcdjlbabddaaB5
import Derived.Test.YtbnfcdjlbabddaaC2
set_option linter.unusedVariables false
set_option linter.unusedSimpArgs false
namespace Go.Proofs.Ytbnfcdjlbabddaa
open Go.Ev

def Tr.root : Tr → Int
  | .node a _ => a
def Tr.subs : Tr → List Tr
  | .node _ ts => ts
mutual
def Tr.size : Tr → Nat
  | .node _ ts => sizes ts + 1
def sizes : List Tr → Nat
  | [] => 0
  | t :: ts => t.size + sizes ts
end
mutual
def Tr.pre : Tr → List Int
  | .node a ts => a :: pres ts
def pres : List Tr → List Int
  | [] => []
  | t :: ts => t.pre ++ pres ts
end
theorem pres_eq : ∀ ts : List Tr, pres ts = ts.flatMap Tr.pre
  | [] => rfl
  | t :: ts => by rw [pres, pres_eq ts]; rfl
theorem sizes_eq : ∀ ts : List Tr, sizes ts = (ts.map Tr.size).sum
  | [] => rfl
  | t :: ts => by rw [sizes, sizes_eq ts]; rfl
mutual
theorem pre_len : ∀ t : Tr, t.pre.length = t.size
  | .node a ts => by rw [Tr.pre, Tr.size, List.length_cons, pres_len ts]
theorem pres_len : ∀ ts : List Tr, (pres ts).length = sizes ts
  | [] => rfl
  | t :: ts => by rw [pres, sizes, List.length_append, pre_len t, pres_len ts]
end
theorem size_sub {t : Tr} : ∀ {ts : List Tr}, t ∈ ts → t.size ≤ sizes ts
  | x :: ts, h => by
    rw [sizes]
    rcases List.mem_cons.1 h with rfl | h
    · omega
    · have := size_sub h; omega
theorem Tr.size_pos (t : Tr) : 0 < t.size := by cases t; rw [Tr.size]; omega

variable {f : LFun}
mutual
/-- The variables that are live at a node; those of some nodes, one list after the other. -/
def atL (f : LFun) : Tr → List Int
  | .node a ts => un ((afC f ts).filter fun v => !decide (v ∈ binds (nodeAt f a))) (uses (nodeAt f a))
def afC (f : LFun) : List Tr → List Int
  | [] => []
  | t :: ts => atL f t ++ afC f ts
end
theorem afC_eq : ∀ ts : List Tr, afC f ts = ts.flatMap (atL f)
  | [] => rfl
  | t :: ts => by rw [afC, afC_eq ts]; rfl
/-- The variables that are live after a node. -/
def afL (f : LFun) : Tr → List Int
  | .node _ ts => un (afC f ts) []
mutual
/-- What is kept of each node. -/
def atM (f : LFun) : Tr → List (Int × List Int)
  | .node a ts => atMs f ts ++ [(a, atL f (.node a ts))]
def atMs (f : LFun) : List Tr → List (Int × List Int)
  | [] => []
  | t :: ts => atM f t ++ atMs f ts
end
mutual
def afM (f : LFun) : Tr → List (Int × List Int)
  | .node a ts => afMs f ts ++ [(a, un (afC f ts) [])]
def afMs (f : LFun) : List Tr → List (Int × List Int)
  | [] => []
  | t :: ts => afM f t ++ afMs f ts
end
mutual
/-- The sets of variables that are live together. -/
def setsL (f : LFun) : Tr → List (List Int)
  | .node a ts => setsC f ts (edg (nodeAt f a)) ++ [atL f (.node a ts)]
def setsC (f : LFun) : List Tr → List (Int × List Int) → List (List Int)
  | [], _ => []
  | _ :: _, [] => []
  | t :: ts, e :: es => (setsL f t ++ [un (atL f t) e.2]) ++ setsC f ts es
end
theorem atMs_eq : ∀ ts : List Tr, atMs f ts = ts.flatMap (atM f)
  | [] => rfl
  | t :: ts => by rw [atMs, atMs_eq ts]; rfl
theorem afMs_eq : ∀ ts : List Tr, afMs f ts = ts.flatMap (afM f)
  | [] => rfl
  | t :: ts => by rw [afMs, afMs_eq ts]; rfl
theorem setsC_eq : ∀ (ts : List Tr) (es : List (Int × List Int)), setsC f ts es = (ts.zip es).flatMap fun p => setsL f p.1 ++ [un (atL f p.1) p.2.2]
  | [], _ => by simp [setsC]
  | _ :: _, [] => by simp [setsC]
  | t :: ts, e :: es => by rw [setsC, setsC_eq ts es]; rfl
mutual
/-- The variables that are bound, in order. -/
def bnd (f : LFun) : Tr → List Int
  | .node a ts => bnds f ts (edg (nodeAt f a))
def bnds (f : LFun) : List Tr → List (Int × List Int) → List Int
  | [], _ => []
  | _ :: _, [] => []
  | t :: ts, e :: es => (e.2 ++ bnd f t) ++ bnds f ts es
end

/-- A tree of a function: its nodes are there, lead where its kids are, use what is in scope. -/
inductive Ok (f : LFun) : List Int → Tr → Prop where
  | node {sc : List Int} {a : Int} {ts : List Tr} (ha : 0 ≤ a ∧ a < (f.code.length : Int)) (hu : ∀ v ∈ uses (nodeAt f a), inSc f sc v) (hl : ts.length = (edg (nodeAt f a)).length)
      (hr : ∀ k (hk : k < ts.length) (hk' : k < (edg (nodeAt f a)).length), ts[k].root = (edg (nodeAt f a))[k].1) (hs : ∀ k (hk : k < ts.length) (hk' : k < (edg (nodeAt f a)).length), Ok f (sc ++ (edg (nodeAt f a))[k].2) ts[k])
      (hb : ∀ e ∈ edg (nodeAt f a), ∀ v ∈ e.2, 0 ≤ v ∧ f.params ≤ v ∧ v < (f.vars.length : Int)) : Ok f sc (.node a ts)

/-- What a successful visit says. -/
theorem shK_ok {rc : Int → List Int → List Int → List Int → Option (Tr × List Int × List Int)} {sc : List Int}
    (hr : ∀ a sc nodes vars t nd vs, 0 ≤ a ∧ a < (f.code.length : Int) → rc a sc nodes vars = some (t, nd, vs) → Ok f sc t ∧ t.root = a ∧ nd = nodes ++ t.pre ∧ vs = vars ++ bnd f t) :
    ∀ (E : List (Int × List Int)) (nodes vars : List Int) (ts : List Tr) (nd vs : List Int), shK rc f sc E nodes vars = some (ts, nd, vs) →
      ts.length = E.length ∧ (∀ k (hk : k < ts.length) (hk' : k < E.length), ts[k].root = E[k].1) ∧ (∀ k (hk : k < ts.length) (hk' : k < E.length), Ok f (sc ++ E[k].2) ts[k]) ∧ (∀ e ∈ E, ∀ v ∈ e.2, 0 ≤ v ∧ f.params ≤ v ∧ v < (f.vars.length : Int)) ∧ nd = nodes ++ pres ts ∧ vs = vars ++ bnds f ts E
  | [], nodes, vars, ts, nd, vs, e => by
    simp only [shK] at e
    cases e
    exact ⟨rfl, (fun k hk => absurd hk (by simp)), (fun k hk => absurd hk (by simp)), (fun e he => by cases he), by simp [pres], by simp [bnds]⟩
  | (k, l) :: r, nodes, vars, ts, nd, vs, e => by
    simp only [shK] at e
    split at e
    · rename_i hc
      split at e
      · rename_i t nd1 vs1 h1
        simp only [Option.map_eq_some_iff] at e
        obtain ⟨⟨ts', nd', vs'⟩, h2, h3⟩ := e
        cases h3
        obtain ⟨a1, a2, a3, a4⟩ := hr _ _ _ _ _ _ _ ⟨hc.1.1, hc.1.2.1⟩ h1
        obtain ⟨b1, b2, b3, b4, b5, b6⟩ := shK_ok hr r nd1 vs1 _ _ _ h2
        have hn := okB_new hc.2
        refine ⟨by simp [b1], fun j hj hj' => ?_, fun j hj hj' => ?_, fun e he v hv => ?_, by rw [b5, a3, pres, List.append_assoc], by rw [b6, a4, bnds]; simp⟩
        · cases j with
          | zero => exact a2
          | succ j => exact b2 j (by simpa using hj) (by simpa using hj')
        · cases j with
          | zero => exact a1
          | succ j => exact b3 j (by simpa using hj) (by simpa using hj')
        · rcases List.mem_cons.1 he with rfl | he
          · exact ⟨(hn v hv).1, (hn v hv).2.1, (hn v hv).2.2.1⟩
          · exact b4 e he v hv
      · cases e
    · cases e
theorem shV_ok : ∀ (n : Nat) (a : Int) (sc nodes vars : List Int) (t : Tr) (nd vs : List Int), 0 ≤ a ∧ a < (f.code.length : Int) → shV f n a sc nodes vars = some (t, nd, vs) → Ok f sc t ∧ t.root = a ∧ nd = nodes ++ t.pre ∧ vs = vars ++ bnd f t
  | 0, _, _, _, _, _, _, _, _, e => by cases e
  | n + 1, a, sc, nodes, vars, t, nd, vs, ha, e => by
    simp only [shV] at e
    split at e
    · rename_i hu
      simp only [Option.map_eq_some_iff] at e
      obtain ⟨⟨ts', nd', vs'⟩, h2, h3⟩ := e
      cases h3
      obtain ⟨b1, b2, b3, b4, b5, b6⟩ := shK_ok (fun a sc nodes vars t nd vs => shV_ok n a sc nodes vars t nd vs) _ _ _ _ _ _ h2
      refine ⟨.node ha hu b1 b2 b3 b4, rfl, by simp [b5, Tr.pre], by rw [b6, bnd]⟩
    · cases e
theorem shapeS_ok {t : Tr} {nd vs : List Int} (h : shapeS f = some (t, nd, vs)) : Ok f [] t ∧ t.root = f.body ∧ nd = t.pre ∧ vs = bnd f t ∧ t.pre.Nodup ∧ t.size ≤ f.code.length := by
  have hp := shapeS_props h
  unfold shapeS at h
  split at h
  · rename_i hb
    obtain ⟨h1, h2, h3, h4⟩ := shV_ok _ _ _ _ _ _ _ _ hb h
    rw [List.nil_append] at h3 h4
    have hn := hp.1
    rw [h3] at hn
    exact ⟨h1, h2, h3, h4, hn.1, by rw [← pre_len]; exact hn.length⟩
  · cases h

/-- Live variables are variables. -/
theorem atL_var {sc : List Int} {t : Tr} (h : Ok f sc t) : ∀ v ∈ atL f t, inSc f sc v := by
  induction h with
  | @node sc a ts ha hu hl hr hs hb ih =>
    intro v hv
    rw [atL, mem_un] at hv
    rcases hv with hv | hv
    · rw [List.mem_filter] at hv
      obtain ⟨h1, h2⟩ := hv
      rw [afC_eq] at h1
      obtain ⟨t, ht, h1⟩ := List.mem_flatMap.1 h1
      obtain ⟨k, hk, rfl⟩ := List.getElem_of_mem ht
      have hk' : k < (edg (nodeAt f a)).length := by omega
      obtain ⟨i0, i1, i2⟩ := ih k hk hk' v h1
      refine ⟨i0, i1, ?_⟩
      rcases i2 with i2 | i2
      · exact .inl i2
      · rcases List.mem_append.1 i2 with i2 | i2
        · exact .inr i2
        · exfalso
          have hnb : v ∉ binds (nodeAt f a) := by simpa using h2
          refine hnb ?_
          obtain ⟨_, e2⟩ := edg_get hk'
          rw [e2] at i2
          split at i2
          · rename_i h9
            have : isBind 9 = false := by decide
            simp only [binds, h9, this]
            exact List.mem_flatMap.2 ⟨_, List.getElem_mem _, i2⟩
          · exact i2
    · exact hu v hv
theorem atL_nums {sc : List Int} {t : Tr} (h : Ok f sc t) : Nums f.vars.length (atL f t) := by
  refine ⟨?_, fun v hv => ⟨(atL_var h v hv).1, (atL_var h v hv).2.1⟩⟩
  cases t
  rw [atL]
  exact un_nodup _ _
end Go.Proofs.Ytbnfcdjlbabddaa

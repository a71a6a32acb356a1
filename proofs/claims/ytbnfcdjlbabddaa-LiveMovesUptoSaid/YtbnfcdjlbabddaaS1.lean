/- The shape of a function, in plain words: a tree of nodes, each reached once, each variable bound once and used in its scope. -/
import Derived.Test.YtbnfcdjlbabddaaB2
set_option linter.unusedVariables false
set_option linter.unusedSimpArgs false
namespace Go.Proofs.Ytbnfcdjlbabddaa
open Go.Ev

inductive Tr where
  | node (a : Int) (ts : List Tr)

def nodeAt (f : LFun) (a : Int) : LNode := (f.code[a.toNat]?).getD ⟨0, 0, [], 0, 0, 0, [], false, [], 0⟩
/-- Where a node leads, and what is bound on the way. -/
def edg (n : LNode) : List (Int × List Int) := if n.op = 9 then n.branches.map (fun b => (b.thn, b.binds)) else (kids n).map fun k => (k, binds n)

/-- Numbers, each once, each below N. -/
def Nums (N : Nat) (l : List Int) : Prop := l.Nodup ∧ ∀ x ∈ l, 0 ≤ x ∧ x < (N : Int)
/-- Variables that are bound, each once: no parameters. -/
def VN (f : LFun) (l : List Int) : Prop := l.Nodup ∧ ∀ x ∈ l, 0 ≤ x ∧ f.params ≤ x ∧ x < (f.vars.length : Int)
theorem Nums.nil (N : Nat) : Nums N [] := ⟨List.nodup_nil, fun x hx => by cases hx⟩
theorem VN.nil (f : LFun) : VN f [] := ⟨List.nodup_nil, fun x hx => by cases hx⟩
theorem Nums.snoc {N : Nat} {l : List Int} {a : Int} (h : Nums N l) (ha : a ∉ l) (h0 : 0 ≤ a ∧ a < (N : Int)) : Nums N (l ++ [a]) := by
  refine ⟨List.nodup_append.2 ⟨h.1, by simp, fun x hx y hy => ?_⟩, fun x hx => ?_⟩
  · rw [List.mem_singleton.1 hy]; exact fun q => ha (q ▸ hx)
  · rcases List.mem_append.1 hx with q | q
    · exact h.2 x q
    · rw [List.mem_singleton.1 q]; exact h0
theorem Nums.length {N : Nat} {l : List Int} (h : Nums N l) : l.length ≤ N := by
  have := List.Nodup.length_le_of_subset (l₂ := (List.range N).map fun n : Nat => (n : Int)) h.1 fun x hx => by
    have := h.2 x hx
    exact List.mem_map.2 ⟨x.toNat, List.mem_range.2 (by omega), by omega⟩
  simpa using this
theorem VN.nums {f : LFun} {l : List Int} (h : VN f l) : Nums f.vars.length l := ⟨h.1, fun x hx => ⟨(h.2 x hx).1, (h.2 x hx).2.2⟩⟩
theorem VN.length {f : LFun} {l : List Int} (h : VN f l) : l.length ≤ f.vars.length := h.nums.length

/-- The variables that are bound: parameters, and some others. -/
def base (f : LFun) : Int → Bool := fun i => decide (i < f.params)
def bdP (f : LFun) (vs : List Int) : Int → Bool := scPut (base f) true vs
def inSc (f : LFun) (sc : List Int) (v : Int) : Prop := 0 ≤ v ∧ v < (f.vars.length : Int) ∧ (v < f.params ∨ v ∈ sc)
theorem bdP_true {f : LFun} {vs : List Int} {v : Int} : bdP f vs v = true ↔ v < f.params ∨ v ∈ vs := by
  unfold bdP scPut base
  by_cases h : v ∈ vs
  · simp [h]
  · simp [h]
theorem bdP_false {f : LFun} {vs : List Int} {v : Int} : bdP f vs v = false ↔ f.params ≤ v ∧ v ∉ vs := by
  rw [← Bool.not_eq_true, bdP_true]
  constructor
  · intro q; exact ⟨by omega, fun h => q (.inr h)⟩
  · rintro ⟨h1, h2⟩ (q | q)
    · omega
    · exact h2 q
theorem scPut_true2 (sc : Int → Bool) (l l' : List Int) : scPut (scPut sc true l) true l' = scPut sc true (l ++ l') := by
  funext i
  simp only [scPut, List.mem_append]
  by_cases h1 : i ∈ l' <;> by_cases h2 : i ∈ l <;> simp [h1, h2]
theorem bdP_app (f : LFun) (vs l : List Int) : scPut (bdP f vs) true l = bdP f (vs ++ l) := scPut_true2 _ _ _
theorem bdP_leave {f : LFun} {vs l : List Int} (h : ∀ v ∈ l, bdP f vs v = false) : scPut (bdP f (vs ++ l)) false l = bdP f vs := by
  funext i
  rw [← bdP_app]
  simp only [scPut]
  by_cases h1 : i ∈ l
  · simp [h1, h i h1]
  · simp [h1]

/-- A list that may be bound. -/
theorem okB_new {f : LFun} {vs l : List Int} (h : okB f (bdP f vs) l) : ∀ v ∈ l, 0 ≤ v ∧ f.params ≤ v ∧ v < (f.vars.length : Int) ∧ v ∉ vs := by
  intro v hv
  obtain ⟨k, hk, rfl⟩ := List.getElem_of_mem hv
  obtain ⟨h0, h1, h2, _⟩ := h k hk
  rw [bdP_false] at h2
  exact ⟨h0, h2.1, h1, h2.2⟩
theorem okB_nodup {f : LFun} {bd : Int → Bool} {l : List Int} (h : okB f bd l) : l.Nodup := by
  refine List.pairwise_iff_getElem.2 fun i j hi hj hij q => ?_
  refine (h j hj).2.2.2 ?_
  rw [← q]
  exact List.mem_take_iff_getElem.2 ⟨i, by omega, rfl⟩
theorem VN.app {f : LFun} {vs l : List Int} (h : VN f vs) (hl : okB f (bdP f vs) l) : VN f (vs ++ l) := by
  have hn := okB_new hl
  refine ⟨List.nodup_append.2 ⟨h.1, okB_nodup hl, fun x hx y hy q => (hn y hy).2.2.2 (q ▸ hx)⟩, fun x hx => ?_⟩
  rcases List.mem_append.1 hx with q | q
  · exact h.2 x q
  · exact ⟨(hn x q).1, (hn x q).2.1, (hn x q).2.2.1⟩

open Classical in
noncomputable def shK (rc : Int → List Int → List Int → List Int → Option (Tr × List Int × List Int)) (f : LFun) (sc : List Int) : List (Int × List Int) → List Int → List Int → Option (List Tr × List Int × List Int)
  | [], nodes, vars => some ([], nodes, vars)
  | (k, l) :: r, nodes, vars =>
    if (0 ≤ k ∧ k < (f.code.length : Int) ∧ k ∉ nodes) ∧ okB f (bdP f vars) l then match rc k (sc ++ l) nodes (vars ++ l) with
      | some (t, nd, vs) => (shK rc f sc r nd vs).map fun p => (t :: p.1, p.2.1, p.2.2)
      | none => none
    else none
open Classical in
noncomputable def shV (f : LFun) : Nat → Int → List Int → List Int → List Int → Option (Tr × List Int × List Int)
  | 0, _, _, _, _ => none
  | n + 1, a, sc, nodes, vars =>
    if ∀ v ∈ uses (nodeAt f a), inSc f sc v then (shK (shV f n) f sc (edg (nodeAt f a)) (nodes ++ [a]) vars).map fun p => (.node a p.1, p.2.1, p.2.2)
    else none

theorem shV_no {f : LFun} {n : Nat} {a : Int} {sc nodes vars : List Int} (h : ¬ ∀ v ∈ uses (nodeAt f a), inSc f sc v) : shV f (n + 1) a sc nodes vars = none := by
  simp only [shV]; rw [if_neg h]
theorem shV_yes {f : LFun} {n : Nat} {a : Int} {sc nodes vars : List Int} (h : ∀ v ∈ uses (nodeAt f a), inSc f sc v) :
    shV f (n + 1) a sc nodes vars = (shK (shV f n) f sc (edg (nodeAt f a)) (nodes ++ [a]) vars).map fun p => (.node a p.1, p.2.1, p.2.2) := by
  simp only [shV]; rw [if_pos h]
section
variable {f : LFun} {rc : Int → List Int → List Int → List Int → Option (Tr × List Int × List Int)} {sc : List Int} {k : Int} {l : List Int} {r : List (Int × List Int)} {nodes vars : List Int}
theorem shK_no (h : ¬ ((0 ≤ k ∧ k < (f.code.length : Int) ∧ k ∉ nodes) ∧ okB f (bdP f vars) l)) : shK rc f sc ((k, l) :: r) nodes vars = none := by
  simp only [shK]; rw [if_neg h]
theorem shK_none (h : (0 ≤ k ∧ k < (f.code.length : Int) ∧ k ∉ nodes) ∧ okB f (bdP f vars) l) (e : rc k (sc ++ l) nodes (vars ++ l) = none) : shK rc f sc ((k, l) :: r) nodes vars = none := by
  simp only [shK]; rw [if_pos h, e]
theorem shK_some {t : Tr} {nd vs : List Int} (h : (0 ≤ k ∧ k < (f.code.length : Int) ∧ k ∉ nodes) ∧ okB f (bdP f vars) l) (e : rc k (sc ++ l) nodes (vars ++ l) = some (t, nd, vs)) :
    shK rc f sc ((k, l) :: r) nodes vars = (shK rc f sc r nd vs).map fun p => (t :: p.1, p.2.1, p.2.2) := by
  simp only [shK]; rw [if_pos h, e]
end

/-- What a visit gives. -/
theorem shK_props {f : LFun} {rc : Int → List Int → List Int → List Int → Option (Tr × List Int × List Int)} {sc : List Int}
    (hr : ∀ a sc nodes vars t nd vs, (0 ≤ a ∧ a < (f.code.length : Int) ∧ a ∉ nodes) → Nums f.code.length nodes → VN f vars → rc a sc nodes vars = some (t, nd, vs) → Nums f.code.length nd ∧ VN f vs ∧ nodes ++ [a] <+: nd ∧ vars <+: vs) :
    ∀ (E : List (Int × List Int)) (nodes vars : List Int) (ts : List Tr) (nd vs : List Int), Nums f.code.length nodes → VN f vars → shK rc f sc E nodes vars = some (ts, nd, vs) → Nums f.code.length nd ∧ VN f vs ∧ nodes <+: nd ∧ vars <+: vs
  | [], nodes, vars, ts, nd, vs, hn, hv, e => by
    simp only [shK] at e
    cases e
    exact ⟨hn, hv, List.prefix_refl _, List.prefix_refl _⟩
  | (k, l) :: r, nodes, vars, ts, nd, vs, hn, hv, e => by
    simp only [shK] at e
    split at e
    · rename_i hc
      split at e
      · rename_i t nd1 vs1 h1
        simp only [Option.map_eq_some_iff] at e
        obtain ⟨⟨ts', nd', vs'⟩, h2, h3⟩ := e
        cases h3
        obtain ⟨a1, a2, a3, a4⟩ := hr _ _ _ _ _ _ _ hc.1 hn (hv.app hc.2) h1
        obtain ⟨b1, b2, b3, b4⟩ := shK_props hr r nd1 vs1 _ _ _ a1 a2 h2
        exact ⟨b1, b2, ((List.prefix_append _ _).trans a3).trans b3, ((List.prefix_append _ _).trans a4).trans b4⟩
      · cases e
    · cases e
theorem shV_props {f : LFun} : ∀ (n : Nat) (a : Int) (sc nodes vars : List Int) (t : Tr) (nd vs : List Int), (0 ≤ a ∧ a < (f.code.length : Int) ∧ a ∉ nodes) → Nums f.code.length nodes → VN f vars → shV f n a sc nodes vars = some (t, nd, vs) → Nums f.code.length nd ∧ VN f vs ∧ nodes ++ [a] <+: nd ∧ vars <+: vs
  | 0, _, _, _, _, _, _, _, _, _, _, e => by cases e
  | n + 1, a, sc, nodes, vars, t, nd, vs, ha, hn, hv, e => by
    simp only [shV] at e
    split at e
    · simp only [Option.map_eq_some_iff] at e
      obtain ⟨⟨ts', nd', vs'⟩, h2, h3⟩ := e
      cases h3
      exact shK_props (fun a sc nodes vars t nd vs => shV_props n a sc nodes vars t nd vs) _ _ _ _ _ _ (hn.snoc ha.2.2 ⟨ha.1, ha.2.1⟩) hv h2
    · cases e
end Go.Proofs.Ytbnfcdjlbabddaa

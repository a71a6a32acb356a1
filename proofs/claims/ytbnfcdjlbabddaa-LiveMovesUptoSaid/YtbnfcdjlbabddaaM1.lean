/- The normal form of a function: its nodes in the order of the visits, its variables in the order in which they are bound. -/
import Derived.Test.YtbnfcdjlbabddaaE3
set_option linter.unusedVariables false
set_option linter.unusedSimpArgs false
namespace Go.Proofs.Ytbnfcdjlbabddaa
open Go.Ev

/-- A variable's new number; another number remains. -/
def reV (f : LFun) (vs : List Int) (v : Int) : Int := if 0 ≤ v ∧ v < (f.vars.length : Int) then newNo f vs v else v
def reOp (op : Int) : Bool := decide (0 ≤ op) && (decide (op ≤ 9) && !decide (op = 1))
def gN (f : LFun) (nd vs : List Int) (n : LNode) : LNode :=
  { op := n.op, var := if n.op ≠ 9 ∧ binds n ≠ [] then newNo f vs n.var else n.var, args := if reOp n.op = true then n.args.map (reV f vs) else n.args, con := n.con, num := n.num, fn := n.fn,
    more := if reOp n.op = true then n.more.map (reV f vs) else n.more, take := n.take, branches := if n.op = 9 then n.branches.map (fun b => ⟨b.binds.map (reV f vs), idxOf nd b.thn⟩) else n.branches,
    next := if n.op ≠ 9 ∧ kids n ≠ [] then idxOf nd n.next else n.next }
def varAt (f : LFun) (v : Int) : LVar := (f.vars[v.toNat]?).getD ⟨0, false⟩
def gF (f : LFun) (nd vs : List Int) : LFun :=
  { name := f.name, params := f.params, result := f.result, vars := f.vars.take f.params.toNat ++ vs.map (varAt f), code := nd.map fun a => gN f nd vs (nodeAt f a), body := 0, extern := f.extern }

section
variable {f : LFun} {nd vs : List Int}
theorem gF_vars (hp : okP f) : ((gF f nd vs).vars.length : Int) = f.params + (vs.length : Int) := by
  have := hp.1; have := hp.2
  simp only [gF, List.length_append, List.length_take, List.length_map]
  omega
theorem gF_code : (gF f nd vs).code.length = nd.length := by simp [gF]
theorem gF_node (hn : nd.Nodup) {a : Int} (ha : a ∈ nd) : nodeAt (gF f nd vs) (idxOf nd a) = gN f nd vs (nodeAt f a) := by
  obtain ⟨k, hk, rfl⟩ := List.getElem_of_mem ha
  rw [idxOf_at hn hk]
  simp [nodeAt, gF, hk]

/-- What is known of a variable: a parameter, or bound. -/
def kn (f : LFun) (vs : List Int) (v : Int) : Prop := 0 ≤ v ∧ v < (f.vars.length : Int) ∧ (v < f.params ∨ v ∈ vs)
theorem idxOf_lt {l : List Int} {x : Int} (h : x ∈ l) (hn : l.Nodup) : idxOf l x < (l.length : Int) := by
  obtain ⟨k, hk, rfl⟩ := List.getElem_of_mem h
  rw [idxOf_at hn hk]; omega
theorem idxOf_inj {l : List Int} {x y : Int} (hn : l.Nodup) (hx : x ∈ l) (hy : y ∈ l) (e : idxOf l x = idxOf l y) : x = y := by
  obtain ⟨k, hk, rfl⟩ := List.getElem_of_mem hx
  obtain ⟨j, hj, rfl⟩ := List.getElem_of_mem hy
  rw [idxOf_at hn hk, idxOf_at hn hj] at e
  have : k = j := by omega
  subst this; rfl
theorem newNo_rng (hp : okP f) (hv : VN f vs) {v : Int} (h : kn f vs v) : 0 ≤ newNo f vs v ∧ newNo f vs v < f.params + (vs.length : Int) ∧ (newNo f vs v < f.params ↔ v < f.params) ∧ (v < f.params → newNo f vs v = v) := by
  have := hp.1
  unfold newNo
  by_cases q : v < f.params
  · rw [if_pos q]
    exact ⟨h.1, by omega, Iff.rfl, fun _ => rfl⟩
  · rw [if_neg q]
    have hm : v ∈ vs := by
      rcases h.2.2 with z | z
      · exact absurd z q
      · exact z
    rw [if_pos hm]
    have h1 := idxOf_ge.2 hm
    have h2 := idxOf_lt hm hv.1
    exact ⟨by omega, by omega, ⟨fun z => by omega, fun z => absurd z q⟩, fun z => absurd z q⟩
theorem newNo_inj (hp : okP f) (hv : VN f vs) {u v : Int} (hu : kn f vs u) (hk : kn f vs v) (e : newNo f vs u = newNo f vs v) : u = v := by
  obtain ⟨a1, a2, a3, a4⟩ := newNo_rng hp hv hu
  obtain ⟨b1, b2, b3, b4⟩ := newNo_rng hp hv hk
  by_cases q : u < f.params
  · have q2 : v < f.params := b3.1 (by rw [← e]; exact a3.2 q)
    rw [← a4 q, ← b4 q2, e]
  · have q2 : ¬ v < f.params := fun z => q (a3.1 (by rw [e]; exact b3.2 z))
    have hmu : u ∈ vs := hu.2.2.resolve_left q
    have hmv : v ∈ vs := hk.2.2.resolve_left q2
    simp only [newNo, if_neg q, if_neg q2, if_pos hmu, if_pos hmv] at e
    exact idxOf_inj hv.1 hmu hmv (by omega)
theorem reV_kn {v : Int} (h : kn f vs v) : reV f vs v = newNo f vs v := by unfold reV; rw [if_pos ⟨h.1, h.2.1⟩]

theorem gN_uses (hp : okP f) (hv : VN f vs) {n : LNode} (hu : ∀ v ∈ uses n, kn f vs v) : uses (gN f nd vs n) = (uses n).map (newNo f vs) := by
  unfold uses at hu ⊢
  have eop : (gN f nd vs n).op = n.op := rfl
  rw [eop]
  by_cases h0 : n.op < 0 ∨ 10 ≤ n.op ∨ n.op = 1
  · rw [if_pos h0, if_pos h0]; rfl
  rw [if_neg h0, if_neg h0]
  rw [if_neg h0] at hu
  have hre : reOp n.op = true := by unfold reOp; simp; omega
  have e1 : (gN f nd vs n).args = n.args.map (reV f vs) := by simp only [gN, hre, if_true]
  have e2 : (gN f nd vs n).more = n.more.map (reV f vs) := by simp only [gN, hre, if_true]
  by_cases h8 : n.op = 8
  · rw [if_pos h8, if_pos h8, e1, e2, ← List.map_append]
    rw [if_pos h8] at hu
    generalize n.args ++ n.more = l at *
    induction l with
    | nil => rfl
    | cons v l ih =>
      rw [List.map_cons]
      by_cases q : 0 ≤ v
      · have hk := hu v (by rw [List.filter_cons, if_pos (by simpa using q)]; exact List.mem_cons_self)
        have h1 := (newNo_rng hp hv hk).1
        rw [List.filter_cons, if_pos (by rw [reV_kn hk]; simpa using h1), List.filter_cons, if_pos (by simpa using q), List.map_cons, reV_kn hk]
        rw [ih fun u hu' => hu u (by rw [List.filter_cons, if_pos (by simpa using q)]; exact List.mem_cons_of_mem _ hu')]
      · have hr : reV f vs v = v := by unfold reV; rw [if_neg fun z => q z.1]
        rw [List.filter_cons, if_neg (by rw [hr]; simpa using q), List.filter_cons, if_neg (by simpa using q)]
        exact ih fun u hu' => hu u (by rw [List.filter_cons, if_neg (by simpa using q)]; exact hu')
  · rw [if_neg h8, if_neg h8, e1]
    rw [if_neg h8] at hu
    exact List.map_congr_left fun v hv' => reV_kn (hu v hv')
theorem gN_binds (n : LNode) (h9 : n.op ≠ 9) : binds (gN f nd vs n) = (binds n).map (newNo f vs) := by
  have e : ∀ n : LNode, n.op ≠ 9 → binds n = if isBind n.op = true then [n.var] else [] := fun n h => by simp [binds, h]
  rw [e _ (show (gN f nd vs n).op ≠ 9 from h9), e n h9]
  show (if isBind n.op = true then [(gN f nd vs n).var] else []) = _
  by_cases hb : isBind n.op = true
  · have hb' : binds n ≠ [] := by rw [e n h9, if_pos hb]; simp
    rw [if_pos hb, if_pos hb]
    simp [gN, h9, hb']
  · rw [if_neg hb, if_neg hb]; rfl
theorem gN_kids (n : LNode) (h9 : n.op ≠ 9) : kids (gN f nd vs n) = (kids n).map (idxOf nd) := by
  have e : ∀ n : LNode, n.op ≠ 9 → kids n = if isNext n.op = true then [n.next] else [] := fun n h => by simp [kids, h]
  rw [e _ (show (gN f nd vs n).op ≠ 9 from h9), e n h9]
  show (if isNext n.op = true then [(gN f nd vs n).next] else []) = _
  by_cases hb : isNext n.op = true
  · have hb' : kids n ≠ [] := by rw [e n h9, if_pos hb]; simp
    rw [if_pos hb, if_pos hb]
    simp [gN, h9, hb']
  · rw [if_neg hb, if_neg hb]; rfl
theorem gN_edg {n : LNode} (hb : ∀ e ∈ edg n, ∀ v ∈ e.2, kn f vs v) : edg (gN f nd vs n) = (edg n).map fun e => (idxOf nd e.1, e.2.map (newNo f vs)) := by
  unfold edg at hb ⊢
  have eop : (gN f nd vs n).op = n.op := rfl
  rw [eop]
  by_cases h9 : n.op = 9
  · rw [if_pos h9, if_pos h9]
    rw [if_pos h9] at hb
    have e1 : (gN f nd vs n).branches = n.branches.map (fun b => ⟨b.binds.map (reV f vs), idxOf nd b.thn⟩) := by simp only [gN, h9, if_true]
    rw [e1, List.map_map, List.map_map]
    refine List.map_congr_left fun b hbm => ?_
    simp only [Function.comp_def]
    congr 1
    exact List.map_congr_left fun v hv' => reV_kn (hb _ (List.mem_map.2 ⟨b, hbm, rfl⟩) v hv')
  · rw [if_neg h9, if_neg h9, gN_binds n h9, gN_kids n h9, List.map_map, List.map_map]
    rfl
theorem gN_binds' {n : LNode} (hb : ∀ e ∈ edg n, ∀ v ∈ e.2, kn f vs v) : binds (gN f nd vs n) = (binds n).map (newNo f vs) := by
  by_cases h9 : n.op = 9
  · have h9' : isBind 9 = false := by decide
    have e : ∀ n : LNode, n.op = 9 → binds n = n.branches.flatMap (·.binds) := fun n h => by simp [binds, h, h9']
    rw [e _ (show (gN f nd vs n).op = 9 from h9), e n h9]
    have e1 : (gN f nd vs n).branches = n.branches.map (fun b => ⟨b.binds.map (reV f vs), idxOf nd b.thn⟩) := by simp only [gN, h9, if_true]
    rw [e1, List.flatMap_map, List.map_flatMap]
    unfold edg at hb
    rw [if_pos h9] at hb
    clear e1 e
    generalize n.branches = B at *
    induction B with
    | nil => rfl
    | cons b B ih =>
      rw [List.flatMap_cons, List.flatMap_cons, ih fun e he => hb e (by rw [List.map_cons]; exact List.mem_cons_of_mem _ he)]
      congr 1
      exact List.map_congr_left fun v hv' => reV_kn (hb _ (by rw [List.map_cons]; exact List.mem_cons_self) v hv')
  · exact gN_binds n h9
end
end Go.Proofs.Ytbnfcdjlbabddaa

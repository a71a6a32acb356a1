/- Live variables: keys, lengths. -/
import Derived.Test.YtbnfcdjlbabddaaD1
set_option linter.unusedVariables false
set_option linter.unusedSimpArgs false
namespace Go.Proofs.Ytbnfcdjlbabddaa
open Go.Ev
variable {f : LFun}
mutual
theorem atM_perm : ∀ t : Tr, ((atM f t).map (·.1)).Perm t.pre
  | .node a ts => by
    rw [atM, Tr.pre, List.map_append, List.map_cons, List.map_nil]
    exact (List.perm_append_comm).trans ((atMs_perm ts).cons a)
theorem atMs_perm : ∀ ts : List Tr, ((atMs f ts).map (·.1)).Perm (pres ts)
  | [] => by simp [atMs, pres]
  | t :: ts => by
    rw [atMs, pres, List.map_append]
    exact (atM_perm t).append (atMs_perm ts)
end
mutual
theorem afM_keys : ∀ t : Tr, (afM f t).map (·.1) = (atM f t).map (·.1)
  | .node a ts => by rw [afM, atM, List.map_append, List.map_append, afMs_keys ts]; rfl
theorem afMs_keys : ∀ ts : List Tr, (afMs f ts).map (·.1) = (atMs f ts).map (·.1)
  | [] => rfl
  | t :: ts => by rw [afMs, atMs, List.map_append, List.map_append, afM_keys t, afMs_keys ts]
end
theorem atM_key {t : Tr} {p : Int × List Int} (h : p ∈ atM f t) : p.1 ∈ t.pre := (atM_perm t).mem_iff.1 (List.mem_map.2 ⟨p, h, rfl⟩)
theorem afM_key {t : Tr} {p : Int × List Int} (h : p ∈ afM f t) : p.1 ∈ t.pre := (atM_perm (f := f) t).mem_iff.1 (by rw [← afM_keys]; exact List.mem_map.2 ⟨p, h, rfl⟩)
theorem atMs_key {ts : List Tr} {p : Int × List Int} (h : p ∈ atMs f ts) : p.1 ∈ pres ts := (atMs_perm ts).mem_iff.1 (List.mem_map.2 ⟨p, h, rfl⟩)
theorem afMs_key {ts : List Tr} {p : Int × List Int} (h : p ∈ afMs f ts) : p.1 ∈ pres ts := (atMs_perm (f := f) ts).mem_iff.1 (by rw [← afMs_keys]; exact List.mem_map.2 ⟨p, h, rfl⟩)
theorem atM_root (t : Tr) : (t.root, atL f t) ∈ atM f t := by
  cases t
  rw [atM]
  simp [Tr.root]
theorem root_pre (t : Tr) : t.root ∈ t.pre := by cases t; simp [Tr.pre, Tr.root]
mutual
theorem sets_len : ∀ t : Tr, (setsL f t).length + 1 ≤ 2 * t.size
  | .node a ts => by
    rw [setsL, Tr.size, List.length_append]
    have := setsC_len ts (edg (nodeAt f a))
    simp; omega
theorem setsC_len : ∀ (ts : List Tr) (es : List (Int × List Int)), (setsC f ts es).length ≤ 2 * sizes ts
  | [], es => by simp [setsC]
  | t :: ts, [] => by simp [setsC]
  | t :: ts, e :: es => by
    rw [setsC, sizes, List.length_append, List.length_append]
    have h1 := sets_len t
    have h2 := setsC_len ts es
    have := t.size_pos
    simp; omega
end
theorem Ok.inv {sc : List Int} {a : Int} {ts : List Tr} (h : Ok f sc (.node a ts)) : (0 ≤ a ∧ a < (f.code.length : Int)) ∧ (∀ v ∈ uses (nodeAt f a), inSc f sc v) ∧ ts.length = (edg (nodeAt f a)).length ∧
    (∀ k (hk : k < ts.length) (hk' : k < (edg (nodeAt f a)).length), ts[k].root = (edg (nodeAt f a))[k].1) ∧ (∀ k (hk : k < ts.length) (hk' : k < (edg (nodeAt f a)).length), Ok f (sc ++ (edg (nodeAt f a))[k].2) ts[k]) ∧
    (∀ e ∈ edg (nodeAt f a), ∀ v ∈ e.2, 0 ≤ v ∧ f.params ≤ v ∧ v < (f.vars.length : Int)) := by
  cases h with
  | node ha hu hl hr hs hb => exact ⟨ha, hu, hl, hr, hs, hb⟩
theorem pres_take (ts : List Tr) (k : Nat) : pres ts = pres (ts.take k) ++ pres (ts.drop k) := by
  rw [pres_eq, pres_eq, pres_eq, ← List.flatMap_append, List.take_append_drop]
theorem sizes_take (ts : List Tr) (k : Nat) : sizes ts = sizes (ts.take k) + sizes (ts.drop k) := by
  rw [← pres_len, ← pres_len, ← pres_len, ← List.length_append, ← pres_take]
theorem pres_at {ts : List Tr} {k : Nat} (hk : k < ts.length) : pres (ts.drop k) = ts[k].pre ++ pres (ts.drop (k + 1)) := by
  rw [List.drop_eq_getElem_cons hk, pres]
theorem sizes_at {ts : List Tr} {k : Nat} (hk : k < ts.length) : sizes (ts.drop k) = ts[k].size + sizes (ts.drop (k + 1)) := by
  rw [List.drop_eq_getElem_cons hk, sizes]
theorem am_nodup {am : List (Int × List Int)} {l : List Tr} (hna : (am.map (·.1)).Nodup) (ka : ∀ p ∈ am, p.1 ∉ pres l) (hn : (pres l).Nodup) : ((am ++ atMs f l).map (·.1)).Nodup := by
  rw [List.map_append]
  refine List.nodup_append.2 ⟨hna, (atMs_perm l).nodup_iff.2 hn, fun u hu v hv q => ?_⟩
  obtain ⟨p, hp, rfl⟩ := List.mem_map.1 hu
  have := (atMs_perm (f := f) l).mem_iff.1 hv
  exact ka p hp (q ▸ this)
theorem atMs_snoc {ts : List Tr} {k : Nat} (hk : k < ts.length) : atMs f (ts.take (k + 1)) = atMs f (ts.take k) ++ atM f ts[k] := by
  rw [take_succ' hk, atMs_eq, atMs_eq, List.flatMap_append]; simp
theorem afMs_snoc {ts : List Tr} {k : Nat} (hk : k < ts.length) : afMs f (ts.take (k + 1)) = afMs f (ts.take k) ++ afM f ts[k] := by
  rw [take_succ' hk, afMs_eq, afMs_eq, List.flatMap_append]; simp
theorem afC_snoc {ts : List Tr} {k : Nat} (hk : k < ts.length) : afC f (ts.take (k + 1)) = afC f (ts.take k) ++ atL f ts[k] := by
  rw [take_succ' hk, afC_eq, afC_eq, List.flatMap_append]; simp
theorem setsC_snoc {ts : List Tr} {E : List (Int × List Int)} {k : Nat} (hk : k < ts.length) (hk' : k < E.length) : setsC f (ts.take (k + 1)) (E.take (k + 1)) = setsC f (ts.take k) (E.take k) ++ (setsL f ts[k] ++ [un (atL f ts[k]) E[k].2]) := by
  rw [setsC_eq, setsC_eq, take_succ' hk, take_succ' hk', List.zip_append (by rw [List.length_take, List.length_take]; omega), List.flatMap_append]; simp
end Go.Proofs.Ytbnfcdjlbabddaa

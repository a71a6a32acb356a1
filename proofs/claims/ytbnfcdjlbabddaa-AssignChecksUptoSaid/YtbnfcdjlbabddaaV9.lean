/- The reference: the variables that are bound below a node. -/
import Derived.Test.YtbnfcdjlbabddaaV8
set_option linter.unusedVariables false
set_option linter.unusedSimpArgs false
namespace Go.Proofs.Ytbnfcdjlbabddaa
open Go.Ev

mutual
def bndR (f : LFun) : Tr → List Int
  | .node a ts => binds (nodeAt f a) ++ bndRs f ts
def bndRs (f : LFun) : List Tr → List Int
  | [] => []
  | t :: ts => bndR f t ++ bndRs f ts
end
theorem bndRs_take (f : LFun) : ∀ {ts : List Tr} {k : Nat} (hk : k < ts.length), bndRs f (ts.take (k + 1)) = bndRs f (ts.take k) ++ bndR f ts[k]
  | t :: ts, 0, _ => by simp [bndRs]
  | t :: ts, k + 1, hk => by
    have := bndRs_take f (ts := ts) (k := k) (by simpa using hk)
    rw [List.take_succ_cons, List.take_succ_cons, bndRs, bndRs, this]
    simp
theorem bndRs_mem {f : LFun} : ∀ {ts : List Tr} {v : Int}, v ∈ bndRs f ts ↔ ∃ k, ∃ hk : k < ts.length, v ∈ bndR f ts[k]
  | [], v => by simp [bndRs]
  | t :: ts, v => by
    rw [bndRs, List.mem_append, bndRs_mem]
    constructor
    · rintro (h | ⟨k, hk, h⟩)
      · exact ⟨0, by simp, h⟩
      · exact ⟨k + 1, by simpa using hk, h⟩
    · rintro ⟨k, hk, h⟩
      cases k with
      | zero => exact .inl h
      | succ k => exact .inr ⟨k, by simpa using hk, h⟩
theorem bnds_mem {f : LFun} : ∀ {ts : List Tr} {es : List (Int × List Int)} {v : Int}, ts.length = es.length → (v ∈ bnds f ts es ↔ ∃ k, ∃ hk : k < ts.length, ∃ hk' : k < es.length, v ∈ es[k].2 ∨ v ∈ bnd f ts[k])
  | [], es, v, _ => by simp [bnds]
  | t :: ts, [], v, h => by simp at h
  | t :: ts, e :: es, v, h => by
    rw [bnds, List.mem_append, List.mem_append, bnds_mem (by simpa using h)]
    constructor
    · rintro (h | ⟨k, hk, hk', h⟩)
      · exact ⟨0, by simp, by simp, h⟩
      · exact ⟨k + 1, by simpa using hk, by simpa using hk', h⟩
    · rintro ⟨k, hk, hk', h⟩
      cases k with
      | zero => exact .inl h
      | succ k => exact .inr ⟨k, by simpa using hk, by simpa using hk', h⟩
theorem edg_binds {n : LNode} {k : Nat} (hk : k < (edg n).length) {v : Int} (hv : v ∈ (edg n)[k].2) : v ∈ binds n := by
  obtain ⟨_, e2⟩ := edg_get hk
  rw [e2] at hv
  split at hv
  · rename_i h9
    have : isBind 9 = false := by decide
    simp only [binds, h9, this]
    exact List.mem_flatMap.2 ⟨_, List.getElem_mem _, hv⟩
  · exact hv
theorem binds_none {n : LNode} (h : edg n = []) : binds n = [] := by
  unfold edg at h
  split at h
  · rename_i h9
    have : isBind 9 = false := by decide
    have hb : n.branches = [] := by simpa using h
    simp [binds, h9, this, hb]
  · rename_i h9
    have hk : kids n = [] := by simpa using h
    unfold kids at hk
    split at hk
    · cases hk
    · rename_i hn
      unfold binds
      rw [if_neg, if_neg h9]
      intro q
      apply hn
      simp [isBind] at q
      simp [isNext]
      omega
theorem bndR_mem {f : LFun} {sc : List Int} {t : Tr} (h : Ok f sc t) : ∀ v, v ∈ bndR f t ↔ v ∈ bnd f t := by
  induction h with
  | @node sc a ts ha hu hl hr hs hb ih =>
    intro v
    rw [bndR, bnd, List.mem_append, bndRs_mem, bnds_mem hl]
    constructor
    · rintro (h | ⟨k, hk, h⟩)
      · by_cases q : 0 < (edg (nodeAt f a)).length
        · obtain ⟨j, hj, hv⟩ := binds_edg h q
          exact ⟨j, by omega, hj, .inl hv⟩
        · rw [binds_none (List.length_eq_zero_iff.1 (by omega))] at h; cases h
      · exact ⟨k, hk, by omega, .inr ((ih k hk (by omega) v).1 h)⟩
    · rintro ⟨k, hk, hk', h | h⟩
      · exact .inl (edg_binds hk' h)
      · exact .inr ⟨k, hk, (ih k hk hk' v).2 h⟩
mutual
theorem bndR_len {f : LFun} (hf : FitF f) : ∀ t : Tr, (∀ a ∈ t.pre, 0 ≤ a ∧ a < (f.code.length : Int)) → (bndR f t).length ≤ 400 * t.size
  | .node a ts, h => by
    have ha := h a (by simp [Tr.pre])
    have h1 := binds_fit (hf.node _ (nodeAt_mem (show a.toNat < f.code.length by omega)))
    have h2 := bndRs_len hf ts fun b hb => h b (by rw [Tr.pre]; exact List.mem_cons_of_mem _ hb)
    rw [bndR, Tr.size, List.length_append]; omega
theorem bndRs_len {f : LFun} (hf : FitF f) : ∀ ts : List Tr, (∀ a ∈ pres ts, 0 ≤ a ∧ a < (f.code.length : Int)) → (bndRs f ts).length ≤ 400 * sizes ts
  | [], _ => by simp [bndRs, sizes]
  | t :: ts, h => by
    have h1 := bndR_len hf t fun b hb => h b (by rw [pres]; exact List.mem_append_left _ hb)
    have h2 := bndRs_len hf ts fun b hb => h b (by rw [pres]; exact List.mem_append_right _ hb)
    rw [bndRs, sizes, List.length_append]; omega
end
theorem pre_in {f : LFun} {sc : List Int} {t : Tr} (h : Ok f sc t) : ∀ a ∈ t.pre, 0 ≤ a ∧ a < (f.code.length : Int) := by
  induction h with
  | @node sc a ts ha hu hl hr hs hb ih =>
    intro b hb'
    rw [Tr.pre] at hb'
    rcases List.mem_cons.1 hb' with rfl | q
    · exact ha
    · rw [pres_eq] at q
      obtain ⟨t, ht, q⟩ := List.mem_flatMap.1 q
      obtain ⟨k, hk, rfl⟩ := List.getElem_of_mem ht
      exact ih k hk (by omega) b q

/-- The reference's 'bound': a list grown. -/
theorem bound_c {f : LFun} (hf : FitF f) {sc : List Int} {t : Tr} (hok : Ok f sc t) : ∀ {L : List Int} {v : PV} {h : AH} {d : Option Nat} {r : List COper} {κ : List KF} {s : Fr} {Q : Fr → AH → Prop},
    Acc h v 1 (L.map Enc.c).flatten L.length → h.lo = 0 → L.length + 400 * t.size ≤ 100000 →
    (∀ v' h', h'.lo = 0 → Acc h' v' 1 ((L ++ bndR f t).map Enc.c).flatten (L ++ bndR f t).length → Mv h v h' v' → WR T r κ (Fr.put s d v') h' Q) →
    callK T 49 [.agg (Enc.c f), .int .i64 t.root, v] h d r κ s Q := by
  induction hok with
  | @node sc a ts ha hu hl hr hs hb ih =>
  intro L v h d r κ s Q hacc lo hlen next
  refine callK_shared (c := c49) rfl rfl rfl ?_
  have c80 := hf.code
  have v120 := hf.vars
  have hal : a.toNat < f.code.length := by omega
  have hfn := hf.node _ (nodeAt_mem hal)
  have hpl := bndR_len hf (.node a ts) (pre_in (.node ha hu hl hr hs hb))
  obtain ⟨x, hxe⟩ : ∃ x, x = nodeAt f a := ⟨_, rfl⟩
  have hcx : f.code[a.toNat] = x := by rw [hxe, nodeAt_eq hal]
  rw [← hxe] at hfn hl hr hb
  have hbl := binds_fit hfn
  have hkl := kids_fit hfn
  have hkl2 : (kids x).length = ts.length := by rw [kids_edg, List.length_map, hl]
  have hvn : ¬ nm v h.nx := fun q => by have := (acc_nm hacc q).1; omega
  have hszt : (bndR f (.node a ts)).length = (binds x).length + (bndRs f ts).length := by rw [bndR, List.length_append, ← hxe]
  simp [c49, Tr.root, evIdx_sl, ha.1, rds_ptr, hal, hcx, lo, bindsR_r x hfn, -WR_app]
  obtain ⟨h1, e1⟩ : ∃ h1, h1 = h.push (.cells (Enc.c x)) := ⟨_, rfl⟩
  have a1 := hacc.push (.cells (Enc.c x))
  have mv1 := (Mv.refl h v).push (.cells (Enc.c x))
  have r1 : h1.row h.nx = some (Enc.c x) := by rw [e1]; simp
  have it2 : h.nx < h1.nx := by rw [e1]; simp
  have lo1 : h1.lo = 0 := by rw [e1]; exact lo
  rw [← e1] at a1 mv1
  simp at e1
  rw [← e1]
  clear e1
  have hsz0 : (Tr.node a ts).size = sizes ts + 1 := by rw [Tr.size]
  refine WR_app_acc (m := (binds x).length) (ys := ((binds x).map Enc.c).flatten) (by simpa using a1) (by simp) (by simpa using flat_len' (binds x)) (by omega) (room (by omega)) (fun w h2 ha2 mv2 => ?_)
  simp at mv2
  have r2 : h2.row h.nx = some (Enc.c x) := by rw [mv2.row it2 (nm_ne hvn)]; exact r1
  have jrow := r2
  simp only [c_LNode] at jrow
  have lo2 : h2.lo = 0 := by rw [mv2.grow.1]; exact lo1
  have ha2' : Acc h2 w 1 ((L ++ binds x).map Enc.c).flatten (L ++ binds x).length := by simpa [-flatInts_append] using ha2
  have mv3 := mv1.trans mv2
  simp [jrow, kidsR_r x hfn]
  have hres : bndR f (.node a ts) = binds x ++ bndRs f ts := by rw [bndR, ← hxe]
  obtain ⟨U, hU⟩ : ∃ U : Nat → List Int, U = fun k => (L ++ binds x) ++ bndRs f (ts.take k) := ⟨_, rfl⟩
  have U0 : U 0 = L ++ binds x := by rw [hU]; simp [bndRs]
  have Us : ∀ k (hk : k < ts.length), U (k + 1) = U k ++ bndR f ts[k] := fun k hk => by rw [hU]; simp only; rw [bndRs_take f hk, List.append_assoc (L ++ binds x)]
  have Un : U ts.length = L ++ bndR f (.node a ts) := by rw [hU]; simp only; rw [List.take_length, hres, List.append_assoc]
  have Ul : ∀ k, (U k).length = L.length + (binds x).length + (bndRs f (ts.take k)).length := fun k => by rw [hU]; simp only; rw [List.length_append, List.length_append]
  rw [← U0] at ha2'
  clear hU U0
  refine WK_loop tgrow (fun k s' h' => s' 9 = .int .i64 (k : Nat) ∧ h'.lo = 0 ∧ Acc h' (s' 2) 1 ((U k).map Enc.c).flatten (U k).length ∧ Mv h v h' (s' 2)) ts.length w49_0 (by decide) ⟨by simp, lo2, by simpa using ha2', by simpa using mv3⟩ ?_
  rintro k s3 h3 hk ⟨e9, lo3, a3, mv4⟩ hs3 hg3
  have f3 : s3 3 = .pi (Enc.c f) := (hs3 3 (by decide)).trans (by simp)
  have f8 : s3 8 = sl (kids x) := (hs3 8 (by decide)).trans (by simp)
  clear hs3 hg3
  have hk2 : k < 9223372036854775807 := by omega
  by_cases hkt : k < ts.length
  · have hkk : k < (kids x).length := by omega
    have hke : k < (edg x).length := by omega
    have er : (kids x)[k] = ts[k].root := by
      rw [hr k hkt hke]
      simp only [kids_edg, List.getElem_map]
    have hps := pre_in (.node ha (hxe ▸ hu) (hxe ▸ hl) (hxe ▸ hr) hs (hxe ▸ hb))
    have hl3 : (bndRs f (ts.take (k + 1))).length ≤ 400 * sizes (ts.take (k + 1)) := bndRs_len hf _ fun b hb => hps b (by
      rw [Tr.pre, pres_eq]
      rw [pres_eq] at hb
      obtain ⟨t, ht, hb⟩ := List.mem_flatMap.1 hb
      exact List.mem_cons_of_mem _ (List.mem_flatMap.2 ⟨t, List.mem_of_mem_take ht, hb⟩))
    have hsk : sizes (ts.take k) + ts[k].size ≤ sizes ts := by
      have e := List.take_append_drop (k + 1) ts
      have h1 : sizes ts = sizes (ts.take (k + 1)) + sizes (ts.drop (k + 1)) := by
        rw [sizes_eq, sizes_eq, sizes_eq, ← List.sum_append, ← List.map_append, e]
      rw [take_succ' hkt, sizes_eq (ts.take k ++ [ts[k]]), List.map_append, List.sum_append, ← sizes_eq] at h1
      simp at h1
      omega
    have hl4 : (bndRs f (ts.take k)).length ≤ 400 * sizes (ts.take k) := bndRs_len hf _ fun b hb => hps b (by
      rw [Tr.pre, pres_eq]
      rw [pres_eq] at hb
      obtain ⟨t, ht, hb⟩ := List.mem_flatMap.1 hb
      exact List.mem_cons_of_mem _ (List.mem_flatMap.2 ⟨t, List.mem_of_mem_take ht, hb⟩))
    simp [c49_0, e9, f3, f8, hkk, evIdx_nat, rd1_ptr, er]
    refine ih k hkt (by rw [← hxe]; exact hke) a3 lo3 ?_ (fun v5 h5 lo5 a5 mv5 => ?_)
    · rw [Ul]; omega
    · rw [← Us k hkt] at a5
      simp [e9, hk2, hkt]
      exact ⟨lo5, a5, mv4.trans mv5⟩
  · have hkk : ¬ k < (kids x).length := by omega
    have hkn : k = ts.length := by omega
    rw [hkn, Un] at a3
    simp [c49_0, e9, f8, hkk]
    exact next _ _ lo3 a3 mv4
end Go.Proofs.Ytbnfcdjlbabddaa

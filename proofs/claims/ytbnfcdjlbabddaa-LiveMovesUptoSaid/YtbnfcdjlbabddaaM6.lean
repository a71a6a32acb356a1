/- The program's 'Normal', walked. -/
import Derived.Test.YtbnfcdjlbabddaaM5
set_option linter.unusedVariables false
set_option linter.unusedSimpArgs false
namespace Go.Proofs.Ytbnfcdjlbabddaa
open Go.Ev

theorem shaped_yes (f : LFun) (hf : FitF f) {t : Tr} (ht : treeS f = some t) : Pure T 39 [.agg (Enc.c f)] (.tup [sl t.pre, sl (bnd f t), .bool true]) true := by
  obtain ⟨v, hv, hP⟩ := shaped_p f hf
  obtain ⟨hokp, hext, nd, vs, hS⟩ := treeS_some ht
  rcases hv with ⟨t', nd', vs', h1, h2, h3, rfl⟩ | ⟨h1, h2, _⟩ | ⟨l, l', h1, rfl⟩
  · rw [hS] at h3; cases h3
    obtain ⟨_, _, rfl, rfl, _⟩ := shapeS_ok hS
    exact hP
  · rw [hext] at h2; cases h2
  · rcases h1 with q | q
    · exact absurd hokp q
    · rw [hS] at q; cases q.2
theorem maps_tree (f : LFun) (hf : FitF f) {t : Tr} (ht : treeS f = some t) : Pure T 22 [.agg (Enc.c f)] (.tup [sl (mapN f t.pre), sl (mapV f (bnd f t)), .int .i64 0]) true := by
  obtain ⟨v, hv, hP⟩ := maps_p f hf
  obtain ⟨hokp, hext, nd, vs, hS⟩ := treeS_some ht
  rcases hv with ⟨t', nd', vs', h1, h2, h3, rfl⟩ | ⟨h1, h2, _⟩ | ⟨h1, rfl⟩
  · rw [hS] at h3; cases h3
    obtain ⟨_, _, rfl, rfl, _⟩ := shapeS_ok hS
    exact hP
  · rw [hext] at h2; cases h2
  · rcases h1 with q | q
    · exact absurd hokp q
    · rw [hS] at q; cases q.2

section
variable {o : Bool} {h : AH} {d : Option Nat} {r : List COper} {κ : List KF} {s : Fr} {Q : Fr → AH → Prop}
theorem binds_r' {x : LNode} (hx : FitN x) (A M : List Int) (hA : A.length ≤ 20) (hM : M.length ≤ 20) : pureK T 17 (some [.agg [.int .i64 x.op, .int .i64 x.var, sl A, .int .i64 x.con, .int .i64 x.num, .int .i64 x.fn, sl M, .bool x.take, sl x.branches, .int .i64 x.next]]) o h d r κ s Q = WR T r κ (Fr.put s d (sl (binds x))) h Q :=
  binds_r (⟨x.op, x.var, A, x.con, x.num, x.fn, M, x.take, x.branches, x.next⟩ : LNode) ⟨hA, hM, hx.2.2⟩
theorem kids_r' {x : LNode} (hx : FitN x) (A M : List Int) (v : Int) (hA : A.length ≤ 20) (hM : M.length ≤ 20) : pureK T 42 (some [.agg [.int .i64 x.op, .int .i64 v, sl A, .int .i64 x.con, .int .i64 x.num, .int .i64 x.fn, sl M, .bool x.take, sl x.branches, .int .i64 x.next]]) o h d r κ s Q = WR T r κ (Fr.put s d (sl (kids x))) h Q :=
  kids_r (⟨x.op, v, A, x.con, x.num, x.fn, M, x.take, x.branches, x.next⟩ : LNode) ⟨hA, hM, hx.2.2⟩
end
set_option maxRecDepth 20000 in
theorem normal_p (f : LFun) (hf : FitF f) {t : Tr} (ht : treeS f = some t) : Pure T 21 [.agg (Enc.c f)] (.tup [.agg (Enc.c (gF f t.pre (bnd f t))), .int .i64 0]) false := by
  obtain ⟨hok, hroot, hnp, hsz, hpo⟩ := treeS_ok ht
  have hvn := tree_vn ht
  have he := (treeS_some ht).2.1
  have c80 := hf.code
  have v120 := hf.vars
  have hvl := hvn.length
  have hpl : t.pre.length ≤ 80 := by rw [pre_len]; omega
  have hr1 := fun {o h d r κ s Q} => pureK_eq (o := o) (h := h) (d := d) (r := r) (κ := κ) (s := s) (Q := Q) (shaped_yes f hf ht) (.inl rfl)
  have hr2 := fun {o h d r κ s Q} => pureK_eq (o := o) (h := h) (d := d) (r := r) (κ := κ) (s := s) (Q := Q) (maps_tree f hf ht) (.inl rfl)
  simp only [c_LFun, he] at hr1 hr2
  obtain ⟨P, hPp⟩ : ∃ P : Nat, f.params = (P : Nat) := ⟨f.params.toNat, by have := hpo.1; omega⟩
  have hPv : P ≤ f.vars.length := by have := hpo.2; omega
  simp only [hPp] at hr1 hr2
  refine ⟨c21, rfl, rfl, ?_⟩
  simp [c21, hr1, he, hPp, evSlice_sl_hi, hPv]
  refine opH_cloneO (src_sl rfl) (flat_len' _) (by decide) (by simp) (room (by simp; omega)) (fun v1 h1 ha1 hm1 => ?_)
  have g1 := hm1.grow
  simp at g1
  simp [fillP, ha1.one]
  have hx1 : ∀ i, nm v1 i → i < h1.nx ∧ 1 ≤ i := fun i hi => ⟨(acc_lt ha1 hi), by
    rcases mv_new hm1 hi with q | q
    · obtain ⟨_, _, _, e⟩ := q; cases e
    · simpa using q⟩
  have r01 : h1.row 0 = some [.str ⟨#[]⟩, .int .i64 0, .int .i64 0, .emp, .emp, .int .i64 0, .bool false] := by
    rw [hm1.row (by simp) (by simp)]; simp
  obtain ⟨h2, e2⟩ : ∃ h2, h2 = h1.push (.cells [.str f.name, .int .i64 f.params, .int .i64 f.result, v1, .emp, .int .i64 0, .bool f.extern]) := ⟨_, rfl⟩
  obtain ⟨tv, htv⟩ : ∃ tv, tv = h1.nx := ⟨_, rfl⟩
  have hNM : NM f tv v1 .emp (f.vars.take P) [] [] 0 h2 := by
    rw [e2, htv]
    refine ⟨g1.1, by omega, by simp, ⟨_, by rw [row_push, if_neg (by omega)]; exact r01, rfl⟩, by simp, ha1.push _, Acc.emp, fun q => by have := (hx1 _ q).1; omega, fun q => by have := (hx1 _ q).2; omega, (fun ⟨_, _, _, q⟩ => by cases q), (fun ⟨_, _, _, q⟩ => by cases q), Apart.emp' _, ⟨rfl, fun k hk => by cases hk⟩⟩
  simp [he, hPp] at e2
  rw [← e2, ← htv]
  clear e2 r01 hx1 hm1 ha1
  obtain ⟨V, hV⟩ : ∃ V : Nat → List LVar, V = fun k => f.vars.take P ++ ((bnd f t).take k).map (varAt f) := ⟨_, rfl⟩
  have V0 : V 0 = f.vars.take P := by rw [hV]; simp
  have Vs : ∀ k (hk : k < (bnd f t).length), V (k + 1) = V k ++ [varAt f (bnd f t)[k]] := fun k hk => by rw [hV]; simp only; rw [take_succ' hk, List.map_append, List.append_assoc]; rfl
  have Vn : V (bnd f t).length = (gF f t.pre (bnd f t)).vars := by
    have : f.params.toNat = P := by omega
    rw [hV]; simp [gF, this]
  have Vl : ∀ k, (V k).length ≤ 240 := fun k => by rw [hV]; simp only; rw [List.length_append, List.length_take, List.length_map, List.length_take]; omega
  rw [← V0] at hNM
  refine WK_range tgrow (fun k s' h' => ∃ vv, NM f tv vv .emp (V k) [] [] 0 h') (bnd f t).length w21_0 rfl (by decide) (by simp) (by simp) (by omega) (by decide) (fun _ _ _ _ j _ => j) ⟨_, hNM⟩ ?_ ?_
  · rintro k s3 h3 hk ⟨vv, m⟩ hi hs hg
    have f1 : s3 1 = .pi (Enc.c f) := (hs 1 (by decide)).trans (by simp [he, hPp])
    have f7 : s3 7 = .pt tv 0 := (hs 7 (by decide)).trans (by simp)
    have f44 : s3 44 = sl (bnd f t) := (hs 44 (by decide)).trans (by simp)
    obtain ⟨b0, b1, b2⟩ := hvn.2 _ (List.getElem_mem hk)
    have hbl : (bnd f t)[k].toNat < f.vars.length := by omega
    have hva : f.vars[(bnd f t)[k].toNat] = varAt f (bnd f t)[k] := by simp [varAt, hbl]
    have rt := m.rt
    have lo := m.lo
    have htx := m.tvx
    have hVk := Vl k
    simp [hi, f44, f7, f1, evIdx_nat, rd1_ptr, hk, rt, he, hPp, evIdx_sl, b0, rds_ptr, hbl, hva, -WR_app]
    refine WR_app_acc (m := 1) (ys := Enc.c (varAt f (bnd f t)[k])) (by simpa using m.av) (by simp; exact src_psl rfl) (by rfl) (by omega) (room (by omega)) (fun w h4 ha4 mv4 => ?_)
    simp at mv4
    have ha4' : Acc h4 w 2 ((V k ++ [varAt f (bnd f t)[k]]).map Enc.c).flatten (V k ++ [varAt f (bnd f t)[k]]).length := by
      simp only [List.map_append, List.flatten_append, List.map_cons, List.map_nil, List.flatten_cons, List.flatten_nil, List.append_nil, List.length_append, List.length_cons, List.length_nil]
      exact ha4
    have m4 := m.var ha4' mv4
    have rt4 : h4.row tv = some [.str f.name, .int .i64 f.params, .int .i64 f.result, vv, .emp, .int .i64 0, .bool f.extern] := by rw [mv4.row htx (nm_ne m.vt)]; exact rt
    have lo4 : h4.lo = 0 := by rw [mv4.grow.1]; exact lo
    have hto : ha4.one = ha4.one := rfl
    simp [rt4, lo4, ha4.one, hi, Vs k hk, he, hPp, f7]
    rw [he, hPp] at m4
    exact ⟨w, m4⟩
  rintro s3 h3 ⟨vv, m⟩ hs3 hg3
  rw [Vn] at m
  have f1 : s3 1 = .pi (Enc.c f) := (hs3 1 (by decide)).trans (by simp [he, hPp])
  have f2 : s3 2 = .pt 0 0 := (hs3 2 (by decide)).trans (by simp)
  have f4 : s3 4 = sl t.pre := (hs3 4 (by decide)).trans (by simp)
  have f7 : s3 7 = .pt tv 0 := (hs3 7 (by decide)).trans (by simp)
  clear hs3 hg3 hV V0 Vs Vl
  simp [f1, he, hPp, hr2, f4]
  have hNl : (mapN f t.pre).length = f.code.length := by simp [mapN, nums_len]
  have hMl : (mapV f (bnd f t)).length = f.vars.length := by simp [mapV, nums_len]
  obtain ⟨G, hG⟩ : ∃ G : Nat → List LNode, G = fun k => (t.pre.take k).map fun a => gN f t.pre (bnd f t) (nodeAt f a) := ⟨_, rfl⟩
  have G0 : G 0 = [] := by rw [hG]; simp
  have Gs : ∀ k (hk : k < t.pre.length), G (k + 1) = G k ++ [gN f t.pre (bnd f t) (nodeAt f t.pre[k])] := fun k hk => by rw [hG]; simp only; rw [take_succ' hk, List.map_append]; rfl
  have Gn : G t.pre.length = (gF f t.pre (bnd f t)).code := by rw [hG]; simp [gF]
  refine WK_range tgrow (fun k s' h' => ∃ cv CS, NM f tv vv cv (gF f t.pre (bnd f t)).vars CS ((G k).map Enc.c).flatten k h') t.pre.length w21_1 rfl (by decide) (by simp) (by simp) (by omega) (by decide) (fun _ _ _ _ j _ => j) ⟨.emp, [], by simpa [G0] using m⟩ ?_ ?_
  · rintro k s4 h4 hk ⟨cv, CS, m4⟩ hi hs4 hg4
    have p1 : s4 1 = .pi (Enc.c f) := (hs4 1 (by decide)).trans (by simp [f1, he, hPp])
    have p7 : s4 7 = .pt tv 0 := (hs4 7 (by decide)).trans (by simp [f7])
    have p10 : s4 10 = sl (mapN f t.pre) := (hs4 10 (by decide)).trans (by simp)
    have p13 : s4 13 = sl (mapV f (bnd f t)) := (hs4 13 (by decide)).trans (by simp)
    have p68 : s4 68 = sl t.pre := (hs4 68 (by decide)).trans (by simp)
    clear hs4 hg4
    have hofl : ofL (mapV f (bnd f t)) = reV f (bnd f t) := funext (ofL_map f (bnd f t))
    have hMg : ∀ v : Int, 0 ≤ v → v < (f.vars.length : Int) → ∀ (h : v.toNat < (mapV f (bnd f t)).length), (mapV f (bnd f t))[v.toNat] = newNo f (bnd f t) v := fun v h0 h1 h => by simp [mapV, nums, Int.max_eq_left h0]
    have hNg : ∀ v : Int, 0 ≤ v → v < (f.code.length : Int) → ∀ (h : v.toNat < (mapN f t.pre).length), (mapN f t.pre)[v.toNat] = idxOf t.pre v := fun v h0 h1 h => by simp [mapN, nums, Int.max_eq_left h0]
    generalize mapV f (bnd f t) = MV at *
    generalize mapN f t.pre = MN at *
    have hGk := Gs k hk
    have hap : t.pre[k] ∈ t.pre := List.getElem_mem hk
    have hedge := pre_edg hok _ hap
    have har := pre_in' hok _ hap
    obtain ⟨a, hak⟩ : ∃ a, t.pre[k] = a := ⟨_, rfl⟩
    rw [hak] at hGk hap hedge har
    have hal : a.toNat < f.code.length := by omega
    have hfn := hf.node _ (nodeAt_mem hal)
    obtain ⟨x, hxe⟩ : ∃ x, x = nodeAt f a := ⟨_, rfl⟩
    have hcx : f.code[a.toNat] = x := by rw [hxe, nodeAt_eq hal]
    rw [← hxe] at hfn hedge hGk
    have lo4 := m4.lo
    have htx := m4.tvx
    have rt4 := m4.rt
    have hfn' := hfn
    obtain ⟨hfa, hfm, hfb, hfbb⟩ := hfn'
    have hcl := fun {h d r κ s Q} => pureK_eq (o := false) (h := h) (d := d) (r := r) (κ := κ) (s := s) (Q := Q) (cloned_p x.branches (by omega) fun b hb => by have := hfbb b hb; omega) (.inr rfl)
    have hofA := fun {o h d r κ s Q} => of41_r (o := o) (h := h) (d := d) (r := r) (κ := κ) (s := s) (Q := Q) MV x.args (by omega) (by omega)
    have hofM := fun {o h d r κ s Q} => of41_r (o := o) (h := h) (d := d) (r := r) (κ := κ) (s := s) (Q := Q) MV x.more (by omega) (by omega)
    rw [hofl] at hofA hofM
    have htn : ¬ tv = h4.nx := by omega
    have fin : ∀ (g : LNode) (DS : List PV) (h5 : AH) (w : PV) (h6 : AH), Mv h5 cv h6 w → gN f t.pre (bnd f t) x = g → h5.lo = h4.lo → h4.nx ≤ h5.nx → (∀ i, i < h4.nx → h5.blk i = h4.blk i) → CellsOk h5 (fun i => i ≠ 0 ∧ i ≠ tv ∧ ¬ nm vv i ∧ ¬ nm cv i) DS (Enc.c g) → Acc h6 w 10 (CS ++ DS) (k + 1) →
        (h6.row tv = some [.str f.name, .int .i64 f.params, .int .i64 f.result, vv, cv, .int .i64 0, .bool f.extern] ∧ h6.lo = 0) ∧ NM f tv vv w (gF f t.pre (bnd f t)).vars (CS ++ DS) ((G (k + 1)).map Enc.c).flatten (k + 1) (h6.set tv (.cells [.str f.name, .int .i64 f.params, .int .i64 f.result, vv, w, .int .i64 0, .bool f.extern])) := by
      intro g DS h5 w h6 mv hg e1 e2 e3 d a
      have m5 := m4.keep e1 e2 e3
      have m6 := m5.code d a mv
      refine ⟨⟨by rw [mv.row m5.tvx (nm_ne m5.ct)]; exact m5.rt, by rw [mv.grow.1]; exact m5.lo⟩, ?_⟩
      have hu : ((G (k + 1)).map Enc.c).flatten = ((G k).map Enc.c).flatten ++ Enc.c g := by
        rw [hGk, hg]
        simp only [List.map_append, List.flatten_append, List.map_cons, List.map_nil, List.flatten_cons, List.flatten_nil, List.append_nil]
      rw [hu]
      exact m6
    by_cases h9 : x.op = 9
    · obtain ⟨Bn, hBn⟩ : ∃ Bn : Nat → List LBranch, Bn = fun q => (x.branches.take q).map fun b => (⟨b.binds.map (reV f (bnd f t)), idxOf t.pre b.thn⟩ : LBranch) := ⟨_, rfl⟩
      have B0 : Bn 0 = [] := by rw [hBn]; simp
      have Bs : ∀ q (hq : q < x.branches.length), Bn (q + 1) = Bn q ++ [⟨x.branches[q].binds.map (reV f (bnd f t)), idxOf t.pre x.branches[q].thn⟩] := fun q hq => by rw [hBn]; simp only; rw [take_succ' hq, List.map_append]; rfl
      have Bl : ∀ q, q ≤ x.branches.length → (Bn q).length = q := fun q hq => by rw [hBn]; simp; omega
      simp [hi, p68, evIdx_nat, rd1_ptr, hk, hak, p1, evIdx_sl, har.1, rds_ptr, hal, hcx, lo4, h9, p13, p10, p7, hofA, hofM, htn, rt4, he, hPp, -WR_app]
      refine WK_range tgrow (fun q s' h' => h'.lo = 0 ∧ h4.nx < h'.nx ∧ (∀ i, i < h4.nx → h'.blk i = h4.blk i) ∧ ∃ bv, h'.row h4.nx = some [.int .i64 9, .int .i64 x.var, sl (x.args.map (reV f (bnd f t))), .int .i64 x.con, .int .i64 x.num, .int .i64 x.fn, sl (x.more.map (reV f (bnd f t))), .bool x.take, bv, .int .i64 x.next] ∧
        Acc h' bv 2 ((Bn q).map Enc.c).flatten q ∧ ∀ i, nm bv i → h4.nx < i) x.branches.length w21_2 rfl (by decide) (by simp) (by simp) (by omega) (by decide) (fun _ _ _ _ j _ => j) ?_ ?_ ?_
      · refine ⟨lo4, by simp, fun i hi => by rw [blk_push, if_neg (by omega)], .emp, by simp, by simpa [B0] using Acc.emp, fun i ⟨_, _, _, q⟩ => by cases q⟩
      · rintro q s5 h5 hq ⟨lo5, hx5, hk5, bv, r5, a5, n5⟩ hi5 hs5 hg5
        have t10 : s5 10 = sl MN := (hs5 10 (by decide)).trans (by simp [p10])
        have t13 : s5 13 = sl MV := (hs5 13 (by decide)).trans (by simp [p13])
        have t16 : s5 16 = .pt h4.nx 0 := (hs5 16 (by decide)).trans (by simp)
        have t138 : s5 138 = sl x.branches := (hs5 138 (by decide)).trans (by simp)
        clear hs5 hg5
        have hbq := hfbb _ (List.getElem_mem hq)
        have hofB := fun {o h d r κ s Q} => of41_r (o := o) (h := h) (d := d) (r := r) (κ := κ) (s := s) (Q := Q) MV x.branches[q].binds (by omega) (by omega)
        rw [hofl] at hofB
        have hn := hedge (x.branches[q].thn, x.branches[q].binds) (by unfold edg; rw [if_pos h9]; exact List.mem_map.2 ⟨_, List.getElem_mem hq, rfl⟩)
        have hn1 := hNg _ hn.1.1 hn.1.2
        have hn2 : x.branches[q].thn.toNat < MN.length := by omega
        have hne : ¬ h4.nx = h5.nx := by omega
        simp [hi5, t138, evIdx_nat, hq, rds_ptr, lo5, t16, t13, t10, r5, hne, hofB, evIdx_sl, hn.1.1, hn2, rd1_ptr, hn1, -WR_app]
        refine WR_app_acc (cs := ((Bn q).map Enc.c).flatten) (n := q) (m := 1) (ys := [sl (x.branches[q].binds.map (reV f (bnd f t))), .int .i64 (idxOf t.pre x.branches[q].thn)]) (by simpa using a5.push _) (by simp; exact src_psl rfl) (by rfl) (by simp; omega) (room (by omega)) (fun w h6 ha6 mv6 => ?_)
        simp at mv6
        have nb : ¬ nm bv h4.nx := fun q => by have := n5 _ q; omega
        have r6 : h6.row h4.nx = some [.int .i64 9, .int .i64 x.var, sl (x.args.map (reV f (bnd f t))), .int .i64 x.con, .int .i64 x.num, .int .i64 x.fn, sl (x.more.map (reV f (bnd f t))), .bool x.take, bv, .int .i64 x.next] := by
          rw [mv6.row (by simp; omega) (nm_ne nb), row_push, if_neg (by omega)]; exact r5
        have lo6 : h6.lo = 0 := by rw [mv6.grow.1]; exact lo5
        have hx6 := mv6.grow.2
        simp at hx6
        have nw : ∀ i, nm w i → h4.nx < i := fun i hi' => by
          rcases mv_new mv6 hi' with z | z
          · exact n5 i z
          · simp at z; omega
        have e : ((Bn (q + 1)).map Enc.c).flatten = ((Bn q).map Enc.c).flatten ++ [sl (x.branches[q].binds.map (reV f (bnd f t))), .int .i64 (idxOf t.pre x.branches[q].thn)] := by
          rw [Bs q hq]
          simp only [List.map_append, List.flatten_append, List.map_cons, List.map_nil, List.flatten_cons, List.flatten_nil, List.append_nil]
          rfl
        simp [t16, r6, lo6, ha6.one, hi5]
        refine ⟨by omega, fun i hi' => ?_, ?_⟩
        · rw [if_neg (by omega), mv6.blk (by simp; omega) fun z o n e => by have := n5 i ⟨z, o, n, e⟩; omega, blk_push, if_neg (by omega)]
          exact hk5 i hi'
        · refine ⟨by rw [e]; exact ha6.set _ (nm_ne fun q => by have := nw _ q; omega), nw⟩
      · rintro s5 h5 ⟨lo5, hx5, hk5, bv, r5, a5, n5⟩ hs5 hg5
        have t16 : s5 16 = .pt h4.nx 0 := (hs5 16 (by decide)).trans (by simp)
        have t7 : s5 7 = .pt tv 0 := (hs5 7 (by decide)).trans (by simp [p7])
        have t70 : s5 70 = .int .i64 (k : Nat) := (hs5 70 (by decide)).trans (by simp [hi])
        clear hs5 hg5
        have rt5 : h5.row tv = some [.str f.name, .int .i64 f.params, .int .i64 f.result, vv, cv, .int .i64 0, .bool f.extern] := by simp only [AH.row, hk5 tv htx]; exact rt4
        have mk := m4.keep (h' := h5) (lo5.trans lo4.symm) (by omega) hk5
        have hBf : Bn x.branches.length = x.branches.map fun b => (⟨b.binds.map (reV f (bnd f t)), idxOf t.pre b.thn⟩ : LBranch) := by rw [hBn]; simp
        have hg : gN f t.pre (bnd f t) x = ⟨9, x.var, x.args.map (reV f (bnd f t)), x.con, x.num, x.fn, x.more.map (reV f (bnd f t)), x.take, Bn x.branches.length, x.next⟩ := by rw [hBf]; simp [gN, h9, reOp]
        have hBl := Bl _ (Nat.le_refl _)
        have hd : CellsOk h5 (fun i => i ≠ 0 ∧ i ≠ tv ∧ ¬ nm vv i ∧ ¬ nm cv i) [.int .i64 9, .int .i64 x.var, sl (x.args.map (reV f (bnd f t))), .int .i64 x.con, .int .i64 x.num, .int .i64 x.fn, sl (x.more.map (reV f (bnd f t))), .bool x.take, bv, .int .i64 x.next] (Enc.c (gN f t.pre (bnd f t) x)) := by
          rw [hg]
          have a6 : Acc h5 bv 2 ((Bn x.branches.length).map Enc.c).flatten (Bn x.branches.length).length := by rw [hBl]; exact a5
          have c1 : CellsOk h5 (fun i => i ≠ 0 ∧ i ≠ tv ∧ ¬ nm vv i ∧ ¬ nm cv i) [bv] [sl (Bn x.branches.length)] := ⟨rfl, fun k hk _ => by
            have : k = 0 := by simp at hk; exact hk
            subst this
            refine CellOk.own a6 fun i hi' => ?_
            have h1 := n5 i hi'
            exact ⟨by omega, by omega, fun q => by have := (acc_lt m4.av q); omega, fun q => by have := (acc_lt m4.ac q); omega⟩⟩
          have c0 := CellsOk.same (h := h5) (fr := fun i => i ≠ 0 ∧ i ≠ tv ∧ ¬ nm vv i ∧ ¬ nm cv i) (cs := [.int .i64 9, .int .i64 x.var, sl (x.args.map (reV f (bnd f t))), .int .i64 x.con, .int .i64 x.num, .int .i64 x.fn, sl (x.more.map (reV f (bnd f t))), .bool x.take]) (List.all_eq_true.2 fun v hv => List.all_eq_true.1 (node_imm (⟨9, x.var, x.args.map (reV f (bnd f t)), x.con, x.num, x.fn, x.more.map (reV f (bnd f t)), x.take, [], x.next⟩ : LNode)) v (by simp only [c_LNode]; simp at hv ⊢; rcases hv with h | h | h | h | h | h | h | h <;> simp [h]))
          have c2 := CellsOk.same (h := h5) (fr := fun i => i ≠ 0 ∧ i ≠ tv ∧ ¬ nm vv i ∧ ¬ nm cv i) (cs := [PV.int .i64 x.next]) (by simp [imm])
          exact (c0.app (c1.app c2))
        simp [t16, t7, r5, rt5, he, hPp, -WR_app]
        refine WR_app_acc (cs := CS) (n := k) (m := 1) (ys := [.int .i64 9, .int .i64 x.var, sl (x.args.map (reV f (bnd f t))), .int .i64 x.con, .int .i64 x.num, .int .i64 x.fn, sl (x.more.map (reV f (bnd f t))), .bool x.take, bv, .int .i64 x.next]) (by simpa using mk.ac) (by simp; exact src_psl rfl) (by rfl) (by omega) (room (by omega)) (fun w h6 ha6 mv6 => ?_)
        simp at mv6
        obtain ⟨⟨q1, q2⟩, q3⟩ := fin _ _ _ w h6 mv6 rfl (lo5.trans lo4.symm) (by omega) hk5 hd ha6
        simp [q1, q2, ha6.one, hi, t7, t70, he, hPp]
        rw [he, hPp] at q3
        exact ⟨w, _, q3⟩
    by_cases hre : 0 ≤ x.op ∧ x.op ≤ 9 ∧ ¬ x.op = 1
    · obtain ⟨ge0, le9, n1⟩ := hre
      have lt0 : ¬ x.op < 0 := by omega
      have gt9 : ¬ 9 < x.op := by omega
      have hbr := fun {o h d r κ s Q} => binds_r' (o := o) (h := h) (d := d) (r := r) (κ := κ) (s := s) (Q := Q) hfn (x.args.map (reV f (bnd f t))) (x.more.map (reV f (bnd f t))) (by simpa using hfa) (by simpa using hfm)
      have hkr := fun {o h d r κ s Q} v => kids_r' (o := o) (h := h) (d := d) (r := r) (κ := κ) (s := s) (Q := Q) hfn (x.args.map (reV f (bnd f t))) (x.more.map (reV f (bnd f t))) v (by simpa using hfa) (by simpa using hfm)
      have hbv : ∀ v, binds x = [v] → 0 < (edg x).length → 0 ≤ v ∧ v < (f.vars.length : Int) := fun v q hl => by
        obtain ⟨j, hj, hv⟩ := binds_in (n := x) (v := v) (by rw [q]; simp) hl
        exact (hedge _ (List.getElem_mem hj)).2 v hv
      rcases binds_one h9 with hb1 | hb1 <;> rcases kids_one h9 with hk1 | hk1 <;> rw [hb1] at hbr <;> rw [hk1] at hkr
      · simp [hi, p68, evIdx_nat, rd1_ptr, hk, hak, p1, evIdx_sl, har.1, rds_ptr, hal, hcx, lo4, lt0, gt9, h9, p13, p10, p7, hofA, hofM, hcl, htn, rt4, he, hPp, ge0, le9, n1, hbr, hkr, -WR_app]
        have hg : gN f t.pre (bnd f t) x = ⟨x.op, x.var, x.args.map (reV f (bnd f t)), x.con, x.num, x.fn, x.more.map (reV f (bnd f t)), x.take, x.branches, x.next⟩ := by simp [gN, h9, hb1, hk1, reOp, ge0, le9, n1]
        refine WR_app_acc (cs := CS) (n := k) (m := 1) (ys := Enc.c (gN f t.pre (bnd f t) x)) (by simpa using m4.ac.push _) (by rw [hg]; simp; exact src_psl rfl) (by rfl) (by simp; omega) (room (by omega)) (fun w h6 ha6 mv6 => ?_)
        simp at mv6
        obtain ⟨⟨q1, q2⟩, q3⟩ := fin _ _ _ w h6 mv6 rfl rfl (Nat.le_succ _) (fun i hi => by rw [blk_push, if_neg (by omega)]) (CellsOk.same (node_imm _)) ha6
        simp [q1, q2, ha6.one, hi, p7, he, hPp, htn]
        rw [he, hPp] at q3
        exact ⟨w, _, q3⟩
      · have hn := hedge (x.next, binds x) (by unfold edg; rw [if_neg h9, hk1]; simp)
        have hn1 := hNg x.next hn.1.1 hn.1.2
        have hn2 : x.next.toNat < MN.length := by omega
        simp [hi, p68, evIdx_nat, rd1_ptr, hk, hak, p1, evIdx_sl, har.1, rds_ptr, hal, hcx, lo4, lt0, gt9, h9, p13, p10, p7, hofA, hofM, hcl, htn, rt4, he, hPp, ge0, le9, n1, hbr, hkr, hn.1.1, hn2, hn1, -WR_app]
        have hg : gN f t.pre (bnd f t) x = ⟨x.op, x.var, x.args.map (reV f (bnd f t)), x.con, x.num, x.fn, x.more.map (reV f (bnd f t)), x.take, x.branches, idxOf t.pre x.next⟩ := by simp [gN, h9, hb1, hk1, reOp, ge0, le9, n1]
        refine WR_app_acc (cs := CS) (n := k) (m := 1) (ys := Enc.c (gN f t.pre (bnd f t) x)) (by simpa using m4.ac.push _) (by rw [hg]; simp; exact src_psl rfl) (by rfl) (by simp; omega) (room (by omega)) (fun w h6 ha6 mv6 => ?_)
        simp at mv6
        obtain ⟨⟨q1, q2⟩, q3⟩ := fin _ _ _ w h6 mv6 rfl rfl (Nat.le_succ _) (fun i hi => by rw [blk_push, if_neg (by omega)]) (CellsOk.same (node_imm _)) ha6
        simp [q1, q2, ha6.one, hi, p7, he, hPp, htn]
        rw [he, hPp] at q3
        exact ⟨w, _, q3⟩
      · exfalso
        have hz : edg x = [] := by unfold edg; rw [if_neg h9, hk1]; rfl
        unfold kids at hk1
        split at hk1
        · cases hk1
        · rename_i z
          unfold binds at hb1
          split at hb1
          · rename_i y
            simp [isBind] at y
            simp [isNext] at z
            omega
          · simp [h9] at hb1
      · have hn := hedge (x.next, binds x) (by unfold edg; rw [if_neg h9, hk1]; simp)
        have hn1 := hNg x.next hn.1.1 hn.1.2
        have hn2 : x.next.toNat < MN.length := by omega
        have hv := hbv x.var hb1 (by unfold edg; rw [if_neg h9, hk1]; simp)
        have hv1 := hMg x.var hv.1 hv.2
        have hv2 : x.var.toNat < MV.length := by omega
        simp [hi, p68, evIdx_nat, rd1_ptr, hk, hak, p1, evIdx_sl, har.1, rds_ptr, hal, hcx, lo4, lt0, gt9, h9, p13, p10, p7, hofA, hofM, hcl, htn, rt4, he, hPp, ge0, le9, n1, hbr, hkr, hn.1.1, hn2, hn1, hv.1, hv2, hv1, -WR_app]
        have hg : gN f t.pre (bnd f t) x = ⟨x.op, newNo f (bnd f t) x.var, x.args.map (reV f (bnd f t)), x.con, x.num, x.fn, x.more.map (reV f (bnd f t)), x.take, x.branches, idxOf t.pre x.next⟩ := by simp [gN, h9, hb1, hk1, reOp, ge0, le9, n1]
        refine WR_app_acc (cs := CS) (n := k) (m := 1) (ys := Enc.c (gN f t.pre (bnd f t) x)) (by simpa using m4.ac.push _) (by rw [hg]; simp; exact src_psl rfl) (by rfl) (by simp; omega) (room (by omega)) (fun w h6 ha6 mv6 => ?_)
        simp at mv6
        obtain ⟨⟨q1, q2⟩, q3⟩ := fin _ _ _ w h6 mv6 rfl rfl (Nat.le_succ _) (fun i hi => by rw [blk_push, if_neg (by omega)]) (CellsOk.same (node_imm _)) ha6
        simp [q1, q2, ha6.one, hi, p7, he, hPp, htn]
        rw [he, hPp] at q3
        exact ⟨w, _, q3⟩
    have hbr := fun {o h d r κ s Q} => binds_r' (o := o) (h := h) (d := d) (r := r) (κ := κ) (s := s) (Q := Q) hfn x.args x.more hfa hfm
    have hkr := fun {o h d r κ s Q} v => kids_r' (o := o) (h := h) (d := d) (r := r) (κ := κ) (s := s) (Q := Q) hfn x.args x.more v hfa hfm
    have hc1 := fun {h : AH} => primCloneI_eq (h := h) (z := 1) (b := 8) (l := x.args) (snap_sl _ _ _ (by decide)) rfl flat_int (room (by omega))
    have hc2 := fun {h : AH} => primCloneI_eq (h := h) (z := 1) (b := 8) (l := x.more) (snap_sl _ _ _ (by decide)) rfl flat_int (room (by omega))
    by_cases n1 : x.op = 1
    · have hb1 : binds x = [x.var] := by
        have : isBind 1 = true := by decide
        unfold binds; rw [n1, if_pos this]
      have hk1 : kids x = [x.next] := by
        have : isNext 1 = true := by decide
        unfold kids; rw [n1, if_pos this]
      rw [hb1] at hbr
      rw [hk1] at hkr
      simp only [n1] at hbr hkr
      have hn := hedge (x.next, binds x) (by unfold edg; rw [if_neg h9, hk1]; simp)
      have hn1 := hNg x.next hn.1.1 hn.1.2
      have hn2 : x.next.toNat < MN.length := by omega
      have hv := hn.2 x.var (by rw [hb1]; simp)
      have hv1 := hMg x.var hv.1 hv.2
      have hv2 : x.var.toNat < MV.length := by omega
      simp [hi, p68, evIdx_nat, rd1_ptr, hk, hak, p1, evIdx_sl, har.1, rds_ptr, hal, hcx, lo4, p13, p10, p7, hcl, htn, rt4, he, hPp, hbr, hkr, hc1, hc2, n1, hn.1.1, hn2, hn1, hv.1, hv2, hv1, -WR_app]
      have hg : gN f t.pre (bnd f t) x = ⟨1, newNo f (bnd f t) x.var, x.args, x.con, x.num, x.fn, x.more, x.take, x.branches, idxOf t.pre x.next⟩ := by simp [gN, hb1, hk1, reOp, n1]
      refine WR_app_acc (cs := CS) (n := k) (m := 1) (ys := Enc.c (gN f t.pre (bnd f t) x)) (by simpa using m4.ac.push _) (by rw [hg]; simp; exact src_psl rfl) (by rfl) (by simp; omega) (room (by omega)) (fun w h6 ha6 mv6 => ?_)
      simp at mv6
      obtain ⟨⟨q1, q2⟩, q3⟩ := fin _ _ _ w h6 mv6 rfl rfl (Nat.le_succ _) (fun i hi => by rw [blk_push, if_neg (by omega)]) (CellsOk.same (node_imm _)) ha6
      simp [q1, q2, ha6.one, hi, p7, he, hPp, htn]
      rw [he, hPp] at q3
      exact ⟨w, _, q3⟩
    have hbf : isBind x.op = false := by unfold isBind; simp; omega
    have hkf : isNext x.op = false := by unfold isNext; simp; omega
    have hb1 : binds x = [] := by unfold binds; rw [hbf]; simp [h9]
    have hk1 : kids x = [] := by unfold kids; rw [hkf]; simp [h9]
    rw [hb1] at hbr
    rw [hk1] at hkr
    by_cases lt0 : x.op < 0
    · have ge0 : ¬ 0 ≤ x.op := by omega
      have hz : reOp x.op = false := by unfold reOp; simp [ge0]
      simp [hi, p68, evIdx_nat, rd1_ptr, hk, hak, p1, evIdx_sl, har.1, rds_ptr, hal, hcx, lo4, h9, p13, p10, p7, hcl, htn, rt4, he, hPp, hbr, hkr, hc1, hc2, lt0, ge0, -WR_app]
      have hg : gN f t.pre (bnd f t) x = ⟨x.op, x.var, x.args, x.con, x.num, x.fn, x.more, x.take, x.branches, x.next⟩ := by simp [gN, hb1, hk1, reOp, h9, lt0, ge0]
      refine WR_app_acc (cs := CS) (n := k) (m := 1) (ys := Enc.c (gN f t.pre (bnd f t) x)) (by simpa using m4.ac.push _) (by rw [hg]; simp; exact src_psl rfl) (by rfl) (by simp; omega) (room (by omega)) (fun w h6 ha6 mv6 => ?_)
      simp at mv6
      obtain ⟨⟨q1, q2⟩, q3⟩ := fin _ _ _ w h6 mv6 rfl rfl (Nat.le_succ _) (fun i hi => by rw [blk_push, if_neg (by omega)]) (CellsOk.same (node_imm _)) ha6
      simp [q1, q2, ha6.one, hi, p7, he, hPp, htn]
      rw [he, hPp] at q3
      exact ⟨w, _, q3⟩
    · have ge0 : 0 ≤ x.op := by omega
      have gt9 : 9 < x.op := by omega
      have le9 : ¬ x.op ≤ 9 := by omega
      simp [hi, p68, evIdx_nat, rd1_ptr, hk, hak, p1, evIdx_sl, har.1, rds_ptr, hal, hcx, lo4, h9, p13, p10, p7, hcl, htn, rt4, he, hPp, hbr, hkr, hc1, hc2, lt0, ge0, gt9, le9, -WR_app]
      have hg : gN f t.pre (bnd f t) x = ⟨x.op, x.var, x.args, x.con, x.num, x.fn, x.more, x.take, x.branches, x.next⟩ := by simp [gN, hb1, hk1, reOp, h9, le9]
      refine WR_app_acc (cs := CS) (n := k) (m := 1) (ys := Enc.c (gN f t.pre (bnd f t) x)) (by simpa using m4.ac.push _) (by rw [hg]; simp; exact src_psl rfl) (by rfl) (by simp; omega) (room (by omega)) (fun w h6 ha6 mv6 => ?_)
      simp at mv6
      obtain ⟨⟨q1, q2⟩, q3⟩ := fin _ _ _ w h6 mv6 rfl rfl (Nat.le_succ _) (fun i hi => by rw [blk_push, if_neg (by omega)]) (CellsOk.same (node_imm _)) ha6
      simp [q1, q2, ha6.one, hi, p7, he, hPp, htn]
      rw [he, hPp] at q3
      exact ⟨w, _, q3⟩
  · rintro s4 h4 ⟨cv, CS, m4⟩ hs4 hg4
    rw [Gn] at m4
    have p2 : s4 2 = .pt 0 0 := (hs4 2 (by decide)).trans (by simp [f2])
    have p7 : s4 7 = .pt tv 0 := (hs4 7 (by decide)).trans (by simp [f7])
    have hsn := fun B => m4.fin rfl gF_code.symm B
    obtain ⟨zs, r0, hz⟩ := m4.r0
    have rt := m4.rt
    have lo := m4.lo
    simp [p7, p2, rt, r0, hz, lo, he, hPp]
    simp [(hsn _).1, (hsn _).2, gF, hPp, he]
    trace_state
end Go.Proofs.Ytbnfcdjlbabddaa

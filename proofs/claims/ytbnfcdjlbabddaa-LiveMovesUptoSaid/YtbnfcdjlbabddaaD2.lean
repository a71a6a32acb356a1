/- Live variables: the visit. -/
import Derived.Test.YtbnfcdjlbabddaaS3
set_option linter.unusedVariables false
set_option linter.unusedSimpArgs false
namespace Go.Proofs.Ytbnfcdjlbabddaa
open Go.Ev

theorem evNilchk_pt {i o : Nat} : evNilchk (.pt i o) = some (.pt i o) := rfl

section
variable {f : LFun} {ix : Nat} {pv sv : PV} {am fm : List (Int × List Int)} {ss : List (List Int)} {h : AH}
/-- Another own slice that grows. -/
theorem LM.mv (m : LM f ix pv am fm ss sv h) {h1 : AH} {u w : PV} (mv : Mv h u h1 w) (hu : ∀ i, nm u i → 4 ≤ i ∧ i ≠ ix) (ap : Apart pv u) (as' : Apart sv u) : LM f ix pv am fm ss sv h1 := by
  have h0 := m.ix0
  have hx := m.ix1
  have g := mv.grow
  have b : ∀ i, i ≤ ix → (i < 4 ∨ i = ix) → h1.blk i = h.blk i := fun i hi hc => mv.blk (by omega) fun z o n e => by have := hu i ⟨z, o, n, e⟩; omega
  have e : ∀ i, i ≤ ix → (i < 4 ∨ i = ix) → h1.row i = h.row i := fun i hi hc => by simp only [AH.row, b i hi hc]
  exact ⟨by rw [g.1]; exact m.lo, h0, by omega, (b 0 (by omega) (by omega)).trans m.b0, (b 1 (by omega) (by omega)).trans m.b1, (e 2 (by omega) (by omega)).trans m.r2, (e 3 (by omega) (by omega)).trans m.r3, (e ix (by omega) (by omega)).trans m.rx, m.sa.mv mv as', m.sn, m.pa.mv mv ap, m.pn, m.ap⟩
end

theorem Gx.mv {h h1 h2 : AH} {sv sv1 u w : PV} (g : Gx h sv h1 sv1) (mv : Mv h1 u h2 w) (hu : ∀ i, nm u i → h.nx ≤ i) : Gx h sv h2 sv1 :=
  ⟨Nat.le_trans g.nx mv.grow.2, mv.grow.1.trans g.lo, fun i h3 hi hn => (mv.blk (by have := g.nx; omega) fun z o n e => by have := hu i ⟨z, o, n, e⟩; omega).trans (g.keep i h3 hi hn), g.n0⟩

/-- What a visit's own memory is: the node's copy, the list that grows. -/
structure Lc (it : Nat) (cs : List PV) (pv sv v : PV) (h : AH) (l : List Int) : Prop where
  lt : it < h.nx
  row : h.row it = some cs
  nsv : ¬ nm sv it
  acc : Acc h v 1 (l.map Enc.c).flatten l.length
  gt : ∀ i, nm v i → it < i
  aps : Apart v sv
theorem Lc.gx {it : Nat} {cs : List PV} {pv sv v : PV} {h : AH} {l : List Int} (c : Lc it cs pv sv v h l) (h4 : 4 ≤ it) {h' : AH} {sv' : PV} (g : Gx h sv h' sv') : Lc it cs pv sv' v h' l := by
  have := c.lt
  refine ⟨by have := g.nx; omega, g.row (by omega) c.lt c.nsv c.row, fun q => ?_, g.acc c.acc (fun i q => by have := c.gt i q; omega) c.aps, c.gt, g.apart c.acc c.aps⟩
  rcases g.n0 _ q with q | q
  · exact c.nsv q
  · omega
theorem Lc.mv {it : Nat} {cs : List PV} {pv sv v w : PV} {h h' : AH} {l l' : List Int} (c : Lc it cs pv sv v h l) {z : Nat} {ys : List PV} {n : Nat} (sa : Acc h sv z ys n) (mv : Mv h v h' w) (a : Acc h' w 1 (l'.map Enc.c).flatten l'.length) : Lc it cs pv sv w h' l' := by
  have h1 := c.lt
  have g := mv.grow
  refine ⟨by omega, ?_, c.nsv, a, fun i q => ?_, (c.aps.symm.mv mv sa).symm⟩
  · rw [mv.row h1 fun z o n e => by have := c.gt it ⟨z, o, n, e⟩; omega]; exact c.row
  · obtain ⟨z, o, n, rfl⟩ := q
    rcases mv.2 with q | q | ⟨z', i', o', n', q, hi'⟩
    · exact c.gt i ⟨z, o, n, q.symm⟩
    · cases q
    · cases q; omega

section
variable {f : LFun} {ix : Nat} {pv : PV}
theorem lv_c (hf : FitF f) : ∀ (n : Nat) (t : Tr) (sc : List Int) (am fm : List (Int × List Int)) (ss : List (List Int)) (sv : PV) {h : AH} {d : Option Nat} {r : List COper} {κ : List KF} {s : Fr} {Q : Fr → AH → Prop},
    t.size ≤ n → Ok f sc t → LM f ix pv am fm ss sv h → (∀ p ∈ am, p.1 ∉ t.pre) → (∀ p ∈ fm, p.1 ∉ t.pre) → (am.map (·.1)).Nodup → t.pre.Nodup → ss.length + 2 * t.size ≤ 1000 →
    (∀ h' sv', LM f ix pv (am ++ atM f t) (fm ++ afM f t) (ss ++ setsL f t) sv' h' → Gx h sv h' sv' → WR T r κ (Fr.put s d (.tup [])) h' Q) →
    callK T 52 [.int .i64 t.root, .pi (Enc.c f), .pt ix 0, .pt 3 0] h d r κ s Q
  | 0, t, sc, am, fm, ss, sv, h, d, r, κ, s, Q, hsz, hok, m, ka, kf, hna, hnp, hl, next => by have := t.size_pos; omega
  | n + 1, .node a ts, sc, am, fm, ss, sv, h, d, r, κ, s, Q, hsz, hok, m, ka, kf, hna, hnp, hl, next => by
    refine callK_shared (c := c52) rfl rfl rfl ?_
    have hok0 := hok
    obtain ⟨ha, hu, hle, hro, hso, hbo⟩ := hok.inv
    have c80 := hf.code
    have v120 := hf.vars
    have hal : a.toNat < f.code.length := by omega
    have hfn := hf.node _ (nodeAt_mem hal)
    obtain ⟨x, hxe⟩ : ∃ x, x = nodeAt f a := ⟨_, rfl⟩
    have hcx : f.code[a.toNat] = x := by rw [hxe, nodeAt_eq hal]
    rw [← hxe] at hfn hu hle hro hso hbo
    have lo := m.lo
    have hix := m.ix1
    have hix0 := m.ix0
    have hlw : h.lo ≤ h.nx := by omega
    have hkf := kids_fit hfn
    have hel := edg_len x
    have hw : (atMs f ts).length = (atMs f ts).length := rfl
    simp [Tr.root, c52, evIdx_sl, ha.1, rds_ptr, hal, hlw, hcx, kids_r x hfn]
    have m1 := m.push (Enc.c x)
    have g1 : Gx h sv (h.push (.cells (Enc.c x))) sv := Gx.push _
    have c1 : Lc h.nx (Enc.c x) pv sv .emp (h.push (.cells (Enc.c x))) [] := ⟨by simp, by simp, fun q => by have := acc_lt m.sa q; omega, Acc.emp, fun i ⟨_, _, _, q⟩ => (by cases q), Apart.emp _⟩
    have hpl : ∀ i, nm pv i → i < h.nx := fun i q => acc_lt m.pa q
    rw [show h.push (.cells [PV.int .i64 x.op, PV.int .i64 x.var, sl x.args, PV.int .i64 x.con, PV.int .i64 x.num, PV.int .i64 x.fn, sl x.more, PV.bool x.take, sl x.branches, PV.int .i64 x.next]) = h.push (.cells (Enc.c x)) from rfl]
    generalize h.push (.cells (Enc.c x)) = h1 at *
    generalize hnx : h.nx = it at *
    have hit : 4 ≤ it := by omega
    rw [Tr.size] at hsz hl
    rw [Tr.pre] at ka kf hnp
    obtain ⟨AM, hAM⟩ : ∃ AM : Nat → List (Int × List Int), AM = fun k => am ++ atMs f (ts.take k) := ⟨_, rfl⟩
    obtain ⟨FM, hFM⟩ : ∃ FM : Nat → List (Int × List Int), FM = fun k => fm ++ afMs f (ts.take k) := ⟨_, rfl⟩
    obtain ⟨SS, hSS⟩ : ∃ SS : Nat → List (List Int), SS = fun k => ss ++ setsC f (ts.take k) ((edg x).take k) := ⟨_, rfl⟩
    obtain ⟨AF, hAF⟩ : ∃ AF : Nat → List Int, AF = fun k => afC f (ts.take k) := ⟨_, rfl⟩
    have AM0 : AM 0 = am := by rw [hAM]; simp [atMs]
    have FM0 : FM 0 = fm := by rw [hFM]; simp [afMs]
    have SS0 : SS 0 = ss := by rw [hSS]; simp [setsC]
    have AF0 : AF 0 = [] := by rw [hAF]; simp [afC]
    have AMs : ∀ k (hk : k < ts.length), AM (k + 1) = AM k ++ atM f ts[k] := fun k hk => by rw [hAM]; simp only; rw [atMs_snoc hk, List.append_assoc]
    have FMs : ∀ k (hk : k < ts.length), FM (k + 1) = FM k ++ afM f ts[k] := fun k hk => by rw [hFM]; simp only; rw [afMs_snoc hk, List.append_assoc]
    have SSs : ∀ k (hk : k < ts.length) (hk' : k < (edg x).length), SS (k + 1) = (SS k ++ setsL f ts[k]) ++ [un (atL f ts[k]) (edg x)[k].2] := fun k hk hk' => by rw [hSS]; simp only; rw [setsC_snoc hk hk']; simp
    have AFs : ∀ k (hk : k < ts.length), AF (k + 1) = AF k ++ atL f ts[k] := fun k hk => by rw [hAF]; simp only; rw [afC_snoc hk]
    have hatl : ∀ k (hk : k < ts.length), (atL f ts[k]).length ≤ 120 := fun k hk => by
      have := (atL_nums (hso k hk (by omega))).length
      omega
    have AFl : ∀ k, k ≤ ts.length → (AF k).length ≤ k * 120 := by
      intro k
      induction k with
      | zero => intro _; rw [AF0]; simp
      | succ k ih =>
        intro hk
        have h1 := ih (by omega)
        have h2 := hatl k (by omega)
        rw [AFs k (by omega), List.length_append]
        omega
    have SSl : ∀ k, (SS k).length ≤ ss.length + 2 * sizes (ts.take k) := fun k => by
      rw [hSS]
      have := setsC_len (f := f) (ts.take k) ((edg x).take k)
      simp only [List.length_append]; omega
    have hnpt : (pres ts).Nodup := (List.nodup_cons.1 hnp).2
    have kAM : ∀ k (hk : k < ts.length), ∀ p ∈ AM k, p.1 ∉ ts[k].pre := fun k hk p hp q => by
      have hpr := pres_take ts k
      rw [pres_at hk] at hpr
      rw [hAM] at hp
      rcases List.mem_append.1 hp with hp | hp
      · exact ka p hp (List.mem_cons_of_mem _ (by rw [hpr]; simp [q]))
      · have h1 := atMs_key hp
        rw [hpr] at hnpt
        exact (List.nodup_append.1 hnpt).2.2 _ h1 _ (List.mem_append_left _ q) rfl
    have kFM : ∀ k (hk : k < ts.length), ∀ p ∈ FM k, p.1 ∉ ts[k].pre := fun k hk p hp q => by
      have hpr := pres_take ts k
      rw [pres_at hk] at hpr
      rw [hFM] at hp
      rcases List.mem_append.1 hp with hp | hp
      · exact kf p hp (List.mem_cons_of_mem _ (by rw [hpr]; simp [q]))
      · have h1 := afMs_key hp
        rw [hpr] at hnpt
        exact (List.nodup_append.1 hnpt).2.2 _ h1 _ (List.mem_append_left _ q) rfl
    have AMn : ∀ k, ((AM k).map (·.1)).Nodup := fun k => by
      have hpr := pres_take ts k
      rw [hAM]
      refine am_nodup hna (fun p hp q => ka p hp (List.mem_cons_of_mem _ (by rw [hpr]; exact List.mem_append_left _ q))) ?_
      rw [hpr] at hnpt
      exact (List.nodup_append.1 hnpt).1
    have AMl : AM ts.length = am ++ atMs f ts := by rw [hAM]; simp
    have FMl : FM ts.length = fm ++ afMs f ts := by rw [hFM]; simp
    have SSe : SS ts.length = ss ++ setsC f ts (edg x) := by rw [hSS]; simp only; rw [List.take_length, hle, List.take_length]
    have AFe : AF ts.length = afC f ts := by rw [hAF]; simp
    clear hAM hFM hSS hAF
    have hkl : (kids x).length = ts.length := by omega
    refine WK_range tgrow (fun k s' h' => ∃ sv', LM f ix pv (AM k) (FM k) (SS k) sv' h' ∧ Gx h sv h' sv' ∧ Lc it (Enc.c x) pv sv' (s' 6) h' (AF k)) (kids x).length w52_0 rfl (by decide) (by simp) (by simp) (by omega) (by decide) (fun k s1 h1 s2 j hne => by rw [hne 6 (by decide) (by decide) (by decide)]; exact j)
      ⟨sv, by rw [AM0, FM0, SS0]; exact m1, g1, by rw [AF0]; simpa using c1⟩ ?_ ?_
    · rintro k s' h' hk ⟨sv', jm, jg, jc⟩ hi hs hg
      have hkt : k < ts.length := by omega
      have hke : k < (edg x).length := by omega
      have hkr : (kids x)[k] = ts[k].root := by
        obtain ⟨e1, _⟩ := edg_get hke
        rw [← e1, hro k hkt hke]
      have f20 : s' 20 = sl (kids x) := (hs 20 (by decide)).trans (by simp)
      have f2 : s' 2 = .pt ix 0 := (hs 2 (by decide)).trans (by simp)
      have f3 : s' 3 = .pt 3 0 := (hs 3 (by decide)).trans (by simp)
      have f5 : s' 5 = .pt it 0 := (hs 5 (by decide)).trans (by simp)
      have hvb : 52 < vb := by decide
      have hst := sizes_take ts k
      rw [sizes_at hkt] at hst
      have hssl := SSl k
      simp [hi, f20, evIdx_nat, rd1_ptr, hk, f2, jm.rx, hvb, hkr]
      refine lv_c hf n ts[k] _ (AM k) (FM k) (SS k) sv' (by omega) (hso k hkt hke) jm (kAM k hkt) (kFM k hkt) (AMn k) ?_ (by omega) (fun h2 sv2 m2 g2 => ?_)
      · have hpr := pres_take ts k
        rw [pres_at hkt] at hpr
        rw [hpr] at hnpt
        exact (List.nodup_append.1 (List.nodup_append.1 hnpt).2.1).1
      have c2 := jc.gx hit g2
      have g2' := jg.trans g2
      have crow := c2.row
      simp only [c_LNode] at crow
      obtain ⟨ek1, ek2⟩ := edg_get hke
      generalize hl2 : (edg x)[k].2 = l at *
      have hl4 : l.length ≤ 400 := by rw [← hl2]; exact edg_fit hfn _ (List.getElem_mem hke)
      have g15 : ∀ (hop : x.op = 9), ∃ hb : k < x.branches.length, x.branches[k].binds = l := fun hop => by
        have hb : k < x.branches.length := by
          unfold edg at hke; rw [if_pos hop] at hke; simpa using hke
        rw [dif_pos hop] at ek2
        exact ⟨hb, ek2.symm⟩
      have g15' : ¬ x.op = 9 → binds x = l := fun hop => by rw [dif_neg hop] at ek2; exact ek2.symm
      simp [f5, crow, binds_r x hfn]
      refine condS_cut tgrow (fun s3 h3 => h3 = h2 ∧ s3 9 = sl l) [9, 35, 36, 37, 38, 39, 40] (by decide) (by decide) (by simp) (fun hc => ?_) (fun hc => ?_) (fun s3 h3 hP hs3 hg3 => ?_)
      · simp at hc
        obtain ⟨hb, e3⟩ := g15 hc
        simp [f5, crow, evIdx_nat, rd1_ptr, hb, e3]
      · simp at hc
        simp [g15' hc]
      obtain ⟨rfl, p9⟩ := hP
      have p3 : s3 3 = .pt 3 0 := (hs3 3 (by decide)).trans (by simp [f3])
      have p5 : s3 5 = .pt it 0 := (hs3 5 (by decide)).trans (by simp [f5])
      have p6 : s3 6 = s' 6 := (hs3 6 (by decide)).trans (by simp)
      have p8 : s3 8 = .int .i64 ts[k].root := (hs3 8 (by decide)).trans (by simp)
      have p22 : s3 22 = .int .i64 (k : Nat) := (hs3 22 (by decide)).trans (by simp [hi])
      have hlk := evLkp_mpI m2.b0 (by rw [← AMs k hkt]; exact AMn (k + 1)) (List.mem_append_right (AM k) (atM_root ts[k]))
      have ha120 := hatl k hkt
      have haf := AFl k (by omega)
      have lo2 := m2.lo
      have nx2 := m2.ix1
      simp [p3, p6, p8, m2.r3, m2.r2, evNilchk_pt, hlk, -WR_app]
      refine WR_app_acc (cs := ((AF k).map Enc.c).flatten) (n := (AF k).length) (m := (atL f ts[k]).length) (ys := ((atL f ts[k]).map Enc.c).flatten) (by simpa using c2.acc) (by simp) (by simpa using flat_len' (atL f ts[k])) (by omega) (room (by omega)) (fun w6 h4 ha4 hm4 => ?_)
      try simp at hm4
      have ha4' : Acc h4 w6 1 ((AF (k + 1)).map Enc.c).flatten (AF (k + 1)).length := by rw [AFs k hkt]; simpa [-flatInts_append] using ha4
      have hpg : ∀ i, nm (s' 6) i → 4 ≤ i ∧ i ≠ ix := fun i q => by have := c2.gt i q; omega
      have ap6 : Apart pv (s' 6) := fun z o n i z' o' n' e e' => by
        have h1 := hpl i ⟨_, _, _, e⟩
        have h2 := c2.gt i ⟨_, _, _, e'⟩
        omega
      have m4 := m2.mv hm4 hpg ap6 c2.aps.symm
      have c4 := c2.mv m2.sa hm4 ha4'
      have hlk4 := evLkp_mpI m4.b0 (by rw [← AMs k hkt]; exact AMn (k + 1)) (List.mem_append_right (AM k) (atM_root ts[k]))
      have lo4 := m4.lo
      have nx4 := m4.ix1
      simp [p3, p8, p9, m4.r3, m4.r2, evNilchk_pt, hlk4, united_r (atL f ts[k]) l (by omega) (by omega), -WR_app, -WR_appS]
      rw [WR_appS_eq (sep_ok fun t ht i hi2 => by
        simp at ht
        subst ht
        simp [p3] at hi2 ⊢
        have := m4.sn i (acc_blk m4.sa hi2)
        omega)]
      have hsl : (SS k ++ setsL f ts[k]).length ≤ 1000 := by
        have := sets_len (f := f) ts[k]
        rw [List.length_append]; omega
      have hssn := SSs k hkt hke
      rw [hl2] at hssn
      generalize hM : SS k ++ setsL f ts[k] = M at *
      generalize un (atL f ts[k]) l = U at *
      refine WR_app_acc (cs := pv :: (M.map Enc.c).flatten) (n := M.length + 1) (m := 1) (ys := [sl U]) (by simpa using m4.sa) (by simp; exact src_psl rfl) (by rfl) (by omega) (room (by omega)) (fun w7 h7 ha7 hm7 => ?_)
      try simp at hm7
      have ha7' : Acc h7 w7 1 (pv :: (((M ++ [U]).map Enc.c).flatten)) ((M ++ [U]).length + 1) := by simpa [Nat.add_assoc] using ha7
      obtain ⟨m8, g8⟩ := m4.grow ha7' hm7
      have c8 := c4.gx hit g8
      have r2' : h7.row 2 = some [.mp 0, .mp 1, sv2] := by rw [hm7.row (by omega) fun z o n e => by have := m4.sn 2 ⟨z, o, n, e⟩; omega]; exact m4.r2
      have lo7 : h7.lo = 0 := by rw [hm7.grow.1]; exact lo4
      have gmv : Gx h sv h4 sv2 := g2'.mv hm4 fun i q => by have := c2.gt i q; omega
      simp [evNilchk_pt, r2', ha7'.one, lo7, p22]
      refine ⟨w7, ?_, gmv.trans g8, c8⟩
      rw [AMs k hkt, FMs k hkt, hssn]
      exact m8
    · rintro s' h' ⟨sv', jm, jg, jc⟩ hs hg
      have f0 : s' 0 = .int .i64 a := (hs 0 (by decide)).trans (by simp [Tr.root])
      have f3 : s' 3 = .pt 3 0 := (hs 3 (by decide)).trans (by simp)
      have f5 : s' 5 = .pt it 0 := (hs 5 (by decide)).trans (by simp)
      have hafl := AFl ts.length (by omega)
      have hAMn := AMn ts.length
      have hssl := SSl ts.length
      rw [hkl, AMl, FMl, SSe] at jm
      rw [hkl, AFe] at jc
      rw [AFe] at hafl
      rw [AMl] at hAMn
      rw [SSe, List.take_length] at hssl
      clear AM0 FM0 SS0 AF0 AMs FMs SSs AFs AFl SSl kAM kFM AMn AMl FMl SSe AFe AM FM SS AF
      have hkid : sizes ts = (pres ts).length := (pres_len ts).symm
      have hats : ts.length ≤ 20 := by omega
      have kaM : ∀ p ∈ am ++ atMs f ts, p.1 ≠ a := fun p hp q => by
        rcases List.mem_append.1 hp with hp | hp
        · exact ka p hp (by rw [q]; exact List.mem_cons_self)
        · exact (List.nodup_cons.1 hnp).1 (q ▸ atMs_key hp)
      have kfM : ∀ p ∈ fm ++ afMs f ts, p.1 ≠ a := fun p hp q => by
        rcases List.mem_append.1 hp with hp | hp
        · exact kf p hp (by rw [q]; exact List.mem_cons_self)
        · exact (List.nodup_cons.1 hnp).1 (q ▸ afMs_key hp)
      have hatD : atL f (.node a ts) = un ((afC f ts).filter fun v => !decide (v ∈ binds x)) (uses x) := by rw [atL, hxe]
      have hamD : atM f (.node a ts) = atMs f ts ++ [(a, atL f (.node a ts))] := by rw [atM]
      have hafD : afM f (.node a ts) = afMs f ts ++ [(a, un (afC f ts) [])] := by rw [afM]
      have hssD : setsL f (.node a ts) = setsC f ts (edg x) ++ [atL f (.node a ts)] := by rw [setsL, hxe]
      rw [hamD, hafD, hssD, ← List.append_assoc, ← List.append_assoc, ← List.append_assoc] at next
      generalize am ++ atMs f ts = A at *
      generalize fm ++ afMs f ts = F at *
      generalize ss ++ setsC f ts (edg x) = S at *
      generalize afC f ts = C at *
      generalize hL : atL f (.node a ts) = L at *
      have lo1 := jm.lo
      have ix1 := jm.ix1
      obtain ⟨v6, e6⟩ : ∃ v6, v6 = s' 6 := ⟨_, rfl⟩
      rw [← e6] at jc
      have hs6 : snap h' 12 v6 = some (sl C) := jc.acc.snap rfl (by decide)
      have hp1 := evPut_mpI (v := un C []) jm.b1 kfM (by omega)
      simp [f3, f0, ← e6, jm.r3, jm.r2, evNilchk_pt, hs6, united_r C [] (by omega) (by simp), hp1]
      have m2 := jm.af_ (F ++ [(a, un C [])])
      have g2 : Gx h' sv' (h'.set 1 (mpI (F ++ [(a, un C [])]))) sv' := Gx.set (by omega) _
      have c2 := jc.gx hit g2
      have gg2 := jg.trans g2
      generalize h'.set 1 (mpI (F ++ [(a, un C [])])) = h2 at *
      have crow := c2.row
      simp only [c_LNode] at crow
      have hbf := binds_fit hfn
      simp [f5, crow, binds_r x hfn, ← e6, c2.acc.len]
      have q0 : s' 0 = .int .i64 a := f0
      have v6gt := c2.gt
      have v6acc := c2.acc
      have v6sv := c2.aps
      have c2' : Lc it (Enc.c x) pv sv' .emp h2 [] := ⟨c2.lt, c2.row, c2.nsv, Acc.emp, fun i ⟨_, _, _, q⟩ => (by cases q), Apart.emp _⟩
      obtain ⟨HF, hHF⟩ := stages (fun l => l.filter fun v => !decide (v ∈ binds x)) C
      have HF0 : HF 0 = [] := by rw [hHF]; rfl
      have HFs : ∀ k (hk : k < C.length), HF (k + 1) = if C[k] ∈ binds x then HF k else HF k ++ [C[k]] := fun k hk => by
        rw [hHF]; simp only; rw [take_succ' hk, List.filter_append]
        split
        · rename_i q; simp [q]
        · rename_i q; simp [q]
      have HFe : HF C.length = C.filter fun v => !decide (v ∈ binds x) := by rw [hHF]; simp
      have HFl : ∀ k, (HF k).length ≤ C.length := fun k => by
        rw [hHF]
        refine Nat.le_trans (List.length_filter_le _ _) ?_
        rw [List.length_take]; omega
      clear hHF jm jg jc g2 hs6 hp1 c2
      refine WK_range tgrow (fun k s3 h3 => LM f ix pv A (F ++ [(a, un C [])]) S sv' h3 ∧ Gx h sv h3 sv' ∧ Acc h3 v6 1 (C.map Enc.c).flatten C.length ∧ Lc it (Enc.c x) pv sv' (s3 11) h3 (HF k) ∧ Apart v6 (s3 11)) C.length w52_1 rfl (by decide) (by simp) (by simp) (by omega) (by decide) (fun k s1 h1 s2 j hne => by rw [hne 11 (by decide) (by decide) (by decide)]; exact j)
        ⟨m2, gg2, v6acc, by rw [HF0]; simpa using c2', by simpa using Apart.emp' v6⟩ ?_ ?_
      · rintro k s3 h3 hk ⟨jm, jg, ja, jc, jap⟩ hi3 hs3 hg3
        have p76 : s3 76 = v6 := (hs3 76 (by decide)).trans (by simp)
        have p10 : s3 10 = sl (binds x) := (hs3 10 (by decide)).trans (by simp)
        have hl1 := HFl k
        have lo3 := jm.lo
        have ix3 := jm.ix1
        obtain ⟨i6, hv6, hr6⟩ := acc_rf ja hk
        simp [hi3, p76]
        rw [show evIdx 1 v6 (k : Int) = some (.pt i6 (0 + k * 1)) from by rw [hv6]; exact evIdx_rf hk]
        simp [hr6, ints_get hk, p10, contains_r (binds x) C[k] (by omega)]
        refine condS_split (fun hc => ?_) (fun hc => ?_) <;> simp at hc
        · simp [-WR_app]
          refine WR_app_acc (cs := ((HF k).map Enc.c).flatten) (n := (HF k).length) (m := 1) (ys := [.int .i64 C[k]]) (by simpa using jc.acc) (by simp; exact src_psl rfl) (by rfl) (by omega) (room (by omega)) (fun w4 h4 ha4 hm4 => ?_)
          try simp at hm4
          have ha4' : Acc h4 w4 1 ((HF (k + 1)).map Enc.c).flatten (HF (k + 1)).length := by rw [HFs k hk, if_neg hc]; simpa using ha4
          have hpg : ∀ i, nm (s3 11) i → 4 ≤ i ∧ i ≠ ix := fun i q => by have := jc.gt i q; omega
          have ap11 : Apart pv (s3 11) := fun z o n i z' o' n' e e' => by
            have h1 := hpl i ⟨_, _, _, e⟩
            have h2 := jc.gt i ⟨_, _, _, e'⟩
            omega
          simp [hi3]
          exact ⟨jm.mv hm4 hpg ap11 jc.aps.symm, jg.mv hm4 fun i q => by have := jc.gt i q; omega, ja.mv hm4 jap, jc.mv jm.sa hm4 ha4', jap.mv hm4 ja⟩
        · simp [hi3, HFs k hk, hc]
          exact ⟨jm, jg, ja, jc, jap⟩
      · rintro s3 h3 ⟨jm, jg, ja, jc, jap⟩ hs3 hg3
        rw [HFe] at jc
        have hll := HFl C.length
        rw [HFe] at hll
        have p0 : s3 0 = .int .i64 a := (hs3 0 (by decide)).trans (by simp [f0])
        have p3 : s3 3 = .pt 3 0 := (hs3 3 (by decide)).trans (by simp [f3])
        have p5 : s3 5 = .pt it 0 := (hs3 5 (by decide)).trans (by simp [f5])
        obtain ⟨v11, e11⟩ : ∃ v, v = s3 11 := ⟨_, rfl⟩
        rw [← e11] at jc
        have hs11 : snap h3 12 v11 = some (sl (C.filter fun v => !decide (v ∈ binds x))) := jc.acc.snap rfl (by decide)
        have huf := uses_fit hfn
        have hp2 := evPut_mpI (v := L) jm.b0 kaM (by have := jm.lo; omega)
        have crow3 := jc.row
        simp only [c_LNode] at crow3
        have hun2 := fun {o h d r κ s Q} => united_r (o := o) (h := h) (d := d) (r := r) (κ := κ) (s := s) (Q := Q) (C.filter fun v => !decide (v ∈ binds x)) (uses x) (by omega) (by omega)
        rw [← hatD] at hun2
        generalize (C.filter fun v => !decide (v ∈ binds x)) = H at *
        simp [p3, p0, p5, ← e11, jm.r3, jm.r2, evNilchk_pt, crow3, uses_r x hfn, hs11, hun2, hp2]
        have m4 := jm.at_ (A ++ [(a, L)])
        have g4 : Gx h sv (h3.set 0 (mpI (A ++ [(a, L)]))) sv' := jg.trans (Gx.set (by omega) _)
        generalize h3.set 0 (mpI (A ++ [(a, L)])) = h4 at *
        have hAn : ((A ++ [(a, L)]).map (·.1)).Nodup := by
          rw [List.map_append]
          refine List.nodup_append.2 ⟨hAMn, by simp, fun u hu v hv q => ?_⟩
          obtain ⟨p, hp, rfl⟩ := List.mem_map.1 hu
          simp at hv
          exact kaM p hp (q.trans hv)
        have hlk := evLkp_mpI m4.b0 hAn (List.mem_append_right A (List.mem_singleton.2 rfl))
        have lo4 := m4.lo
        have ix4 := m4.ix1
        simp [p3, p0, m4.r3, m4.r2, evNilchk_pt, hlk, -WR_app, -WR_appS]
        rw [WR_appS_eq (sep_ok fun t ht i hi2 => by
          simp at ht
          subst ht
          simp [p3] at hi2 ⊢
          have := m4.sn i (acc_blk m4.sa hi2)
          omega)]
        refine WR_app_acc (cs := pv :: (S.map Enc.c).flatten) (n := S.length + 1) (m := 1) (ys := [sl L]) (by simpa using m4.sa) (by simp; exact src_psl rfl) (by rfl) (by omega) (room (by omega)) (fun w7 h7 ha7 hm7 => ?_)
        try simp at hm7
        have ha7' : Acc h7 w7 1 (pv :: (((S ++ [L]).map Enc.c).flatten)) ((S ++ [L]).length + 1) := by simpa [Nat.add_assoc] using ha7
        obtain ⟨m8, g8⟩ := m4.grow ha7' hm7
        have r2' : h7.row 2 = some [.mp 0, .mp 1, sv'] := by rw [hm7.row (by omega) fun z o n e => by have := m4.sn 2 ⟨z, o, n, e⟩; omega]; exact m4.r2
        have lo7 : h7.lo = 0 := by rw [hm7.grow.1]; exact lo4
        simp [evNilchk_pt, r2', ha7'.one, lo7]
        exact next _ _ m8 (g4.trans g8)
end
end Go.Proofs.Ytbnfcdjlbabddaa

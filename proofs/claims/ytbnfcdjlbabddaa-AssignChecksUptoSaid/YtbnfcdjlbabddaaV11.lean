/- The reference's 'Sets'. -/
import Derived.Test.YtbnfcdjlbabddaaV10
set_option linter.unusedVariables false
set_option linter.unusedSimpArgs false
namespace Go.Proofs.Ytbnfcdjlbabddaa
open Go.Ev

attribute [local simp] evNilchk_pi
theorem refSets_p (f : LFun) (hf : FitF f) {t : Tr} (ht : treeS f = some t) : Pure T 51 [.agg (Enc.c f)] (sl (nums f.params.toNat :: (subsP t).flatMap (setsN f))) false := by
  obtain ⟨NL, VL, OL, c, bad, hP, hv⟩ := refOf_tree f hf
  rcases hv with ⟨t', h1, he, rfl, rfl, _⟩ | ⟨h1, _⟩
  case inr => rw [ht] at h1; cases h1
  rw [ht] at h1; cases h1
  have hof := fun {h d r κ s Q} => pureK_eq (o := false) (h := h) (d := d) (r := r) (κ := κ) (s := s) (Q := Q) hP (.inr rfl)
  simp only [c_LFun] at hof
  obtain ⟨hok, hroot, hnp, hsz, hpo⟩ := treeS_ok ht
  have c80 := hf.code
  have v120 := hf.vars
  obtain ⟨P, hPp⟩ : ∃ P : Nat, f.params = (P : Nat) := ⟨f.params.toNat, by have := hpo.1; omega⟩
  have hPv : P ≤ f.vars.length := by have := hpo.2; omega
  have hPt : f.params.toNat = P := by omega
  rw [hPt]
  refine ⟨c51, rfl, rfl, ?_⟩
  simp [c51]
  refine WK_loop tgrow (fun k s' h' => s' 4 = .int .i64 (k : Nat) ∧ h'.lo = 0 ∧ Acc h' (s' 3) 1 ((nums k).map Enc.c).flatten k) P w51_0 (by decide) ⟨by simp, by simp, by simp [nums]; exact Acc.emp⟩ ?_
  rintro k s1 h1 hk ⟨e4, lo1, ja⟩ hs1 hg1
  have f1 : s1 1 = .pi (Enc.c f) := (hs1 1 (by decide)).trans (by simp)
  clear hs1 hg1
  have hk2 : k < 9223372036854775807 := by omega
  by_cases hkl : k < P
  · simp [c51_0, e4, f1, hPp, hkl, -WR_app]
    refine WR_app_acc (m := 1) (ys := [.int .i64 (k : Nat)]) (by simpa using ja) (by simp; exact src_psl rfl) (by rfl) (by omega) (room (by omega)) (fun w h2 ha2 mv2 => ?_)
    have g2 := mv2.grow
    simp [e4, hk2, nums_snoc]
    exact ⟨by rw [g2.1]; exact lo1, by simpa using ha2⟩
  have hkn : k = P := by omega
  subst hkn
  obtain ⟨pv, hpv⟩ : ∃ pv, pv = s1 3 := ⟨_, rfl⟩
  rw [← hpv] at ja
  simp only [hPp] at hof
  simp [c51_0, e4, f1, hPp, ← hpv]
  have fil : fillP [PV.emp] [(0, 1, pv)] = some [pv] := by simp [fillP, ja.one]
  simp [fil, evBsl, room, -WR_app]
  simp only [he] at hof
  simp [f1, hPp, he, hof]
  have hpx : ∀ i, nm pv i → i < h1.nx := fun i hi => (acc_nm ja hi).1
  have a1 : Acc (h1.push (.cells [pv])) (.rf 1 h1.nx 0 1) 1 [pv] 1 := ⟨rfl, .inr ⟨h1.nx, rfl, by simp, by simp, by simp; omega⟩⟩
  have ap1 : Apart pv (.rf 1 h1.nx 0 1) := Apart.of fun i hi hj => by
    obtain ⟨_, _, _, e⟩ := hj
    cases e
    have := hpx _ hi
    omega
  have p1 := ja.push (.cells [pv])
  have lo2 : (h1.push (.cells [pv])).lo = 0 := lo1
  generalize h1.push (.cells [pv]) = h2 at *
  generalize h1.nx = j0 at *
  obtain ⟨SB, hSB⟩ : ∃ SB, SB = subsP t := ⟨_, rfl⟩
  have hpre : t.pre = SB.map Tr.root := by rw [hSB, subsP_pre]
  have hSl : SB.length ≤ 80 := by
    have := pre_len t
    rw [hpre, List.length_map] at this
    omega
  have hSok : ∀ u ∈ SB, ∃ sc, Ok f sc u := fun u hu => subsP_ok hok u (hSB ▸ hu)
  rw [← hSB]
  obtain ⟨S, hS⟩ := stages (fun l => l.flatMap (setsN f)) SB
  have S0 : S 0 = [] := by rw [hS]; rfl
  have Ss : ∀ k (hk : k < SB.length), S (k + 1) = S k ++ setsN f SB[k] := fun k hk => by rw [hS]; simp only; rw [take_succ' hk, List.flatMap_append]; simp
  have Sn : S SB.length = SB.flatMap (setsN f) := by rw [hS]; simp
  have hsN : ∀ u ∈ SB, (setsN f u).length ≤ 21 := fun u hu => by
    obtain ⟨sc, hu⟩ := hSok u hu
    cases hu with
    | @node sc a ts ha hu hl hr hs hb =>
      have hfn := hf.node _ (nodeAt_mem (show a.toNat < f.code.length by omega))
      have := kids_fit hfn
      have := edg_len (nodeAt f a)
      rw [setsN, List.length_cons, kidsN_len hl]
      omega
  have Sl : ∀ k, (S k).length ≤ 80 * 21 := fun k => by
    rw [hS]
    refine Nat.le_trans (flatMap_len (m := 21) fun x hx => hsN x (List.mem_of_mem_take hx)) (Nat.mul_le_mul_right _ ?_)
    rw [List.length_take]; omega
  rw [← Sn]
  obtain ⟨OL, hOL⟩ : ∃ OL, OL = t.pre := ⟨_, rfl⟩
  have hml : OL.length = SB.length := by rw [hOL, hpre, List.length_map]
  have hOg : ∀ q (h1 : q < OL.length) (h2 : q < SB.length), OL[q] = SB[q].root := by rw [hOL, hpre]; intro q h1 h2; simp
  rw [← hOL] at hof ⊢
  refine WK_loop tgrow (fun q s' h' => s' 7 = .int .i64 (q : Nat) ∧ h'.lo = 0 ∧ Acc h' (s' 5) 1 (pv :: ((S q).map Enc.c).flatten) (1 + (S q).length) ∧ Acc h' pv 1 ((nums k).map Enc.c).flatten k ∧ Apart pv (s' 5)) SB.length w51_1 (by decide) ⟨by simp, lo2, by simpa [S0] using a1, p1, by simpa using ap1⟩ ?_
  rintro q s2 h3 hq ⟨e7, lo3, a3, p3, ap3⟩ hs2 hg2
  have g1 : s2 1 = .pi (Enc.c f) := (hs2 1 (by decide)).trans (by simp [f1])
  have g6 : s2 6 = .pi (wR f NL VL OL c false) := (hs2 6 (by decide)).trans (by simp [he, hPp])
  clear hs2 hg2
  have hq2 : q < 9223372036854775807 := by omega
  by_cases hql : q < SB.length
  case neg =>
    have hqn : q = SB.length := by omega
    have hs1 := p3.snap (m := 10) (by simp [nums_len]) (by decide)
    have hfin : snap h3 (11 + 1) (s2 5) = some (.sl (1 + (S q).length) (sl (nums k) :: ((S q).map Enc.c).flatten)) := by
      refine a3.snap_cells ?_
      rw [allO_cons, hs1, allO_flat (by decide)]; rfl
    simp [c51_1, e7, g6, wR, hml, hql, hfin]
    rw [hqn, Nat.add_comm]
    rfl
  obtain ⟨sc, hT⟩ := hSok _ (List.getElem_mem hql)
  have Sq := Ss q hql
  have hmq : q < OL.length := by omega
  have hro := hOg q hmq hql
  have hsl1 := Sl q
  have hsl2 := Sl (q + 1)
  generalize SB[q] = u at *
  have hPa := refAt_p hf hT
  cases hT with
  | @node sc a ts ha hu hl hr hs hb =>
  have hal : a.toNat < f.code.length := by omega
  have hfn := hf.node _ (nodeAt_mem hal)
  have hkn0 := kidsN_len hl
  have hkg := fun j hj hj' h => kidsN_get (f := f) (a := a) (ts := ts) (k := j) hj hj' h
  obtain ⟨x, hxe⟩ : ∃ x, x = nodeAt f a := ⟨_, rfl⟩
  have hcx : f.code[a.toNat] = x := by rw [hxe, nodeAt_eq hal]
  rw [← hxe] at hfn hl hr hb hkg
  have hkl2 : (kids x).length = ts.length := by rw [kids_edg, List.length_map, hl]
  have hkl3 := kids_fit hfn
  have hra := fun {h d r κ s Q} => pureK_eq (o := false) (h := h) (d := d) (r := r) (κ := κ) (s := s) (Q := Q) hPa (.inr rfl)
  simp only [c_LFun, Tr.root] at hra hro
  obtain ⟨h4, e4⟩ : ∃ h4, h4 = h3.push (.cells (Enc.c x)) := ⟨_, rfl⟩
  have a4 := a3.push (.cells (Enc.c x))
  have p4 := p3.push (.cells (Enc.c x))
  have r4 : h4.row h3.nx = some (Enc.c x) := by rw [e4]; simp
  have it4 : h3.nx < h4.nx := by rw [e4]; simp
  have lo4 : h4.lo = 0 := by rw [e4]; exact lo3
  have n4 : ¬ nm (s2 5) h3.nx := fun z => by have := (acc_nm a3 z).1; omega
  rw [← e4] at a4 p4
  simp at e4
  simp [c51_1, e7, g1, g6, wR, hml, hql, evIdx_nat, rd1_ptr, hmq, hro, evIdx_sl, ha.1, rds_ptr, hal, hcx, lo3, hra, -WR_app]
  rw [← e4]
  clear e4
  obtain ⟨it, hit⟩ : ∃ it, it = h3.nx := ⟨_, rfl⟩
  rw [← hit] at r4 it4 n4 ⊢
  obtain ⟨U, hU⟩ : ∃ U : Nat → List (List Int), U = fun j => S q ++ (atL f (.node a ts) :: (kidsN f (.node a ts)).take j) := ⟨_, rfl⟩
  have U0 : U 0 = S q ++ [atL f (.node a ts)] := by rw [hU]; simp
  have Us : ∀ j (hj : j < ts.length) (hj' : j < (edg x).length), U (j + 1) = U j ++ [un (atL f ts[j]) (edg x)[j].2] := fun j hj hj' => by
    rw [hU]; simp only
    rw [take_succ' (show j < (kidsN f (.node a ts)).length by omega), hkg j hj hj' (by omega)]
    simp
  have Un : U ts.length = S (q + 1) := by
    rw [hU]; simp only
    rw [List.take_of_length_le (by omega), Sq, setsN]
  have Ul : ∀ j, (U j).length ≤ 80 * 21 + 30 := fun j => by
    rw [hU]; simp only
    rw [List.length_append, List.length_cons, List.length_take]
    omega
  clear hU
  refine WR_app_acc (cs := pv :: ((S q).map Enc.c).flatten) (n := 1 + (S q).length) (m := 1) (ys := [sl (atL f (.node a ts))]) (by simpa using a4) (by simp; exact src_psl rfl) (by rfl) (by omega) (room (by omega)) (fun w h5 ha5 mv5 => ?_)
  simp at mv5
  have r5 : h5.row it = some (Enc.c x) := by rw [mv5.row it4 (nm_ne n4)]; exact r4
  have n5 : ¬ nm w it := fun ⟨z, o, n, e⟩ => mv5.ne it4 (nm_ne n4) z o n e
  have it5 : it < h5.nx := by have := mv5.grow.2; omega
  have lo5 : h5.lo = 0 := by rw [mv5.grow.1]; exact lo4
  have p5 := p4.mv mv5 ap3
  have ap5 := ap3.mv mv5 p4
  have jrow := r5
  simp only [c_LNode] at jrow
  have ha5' : Acc h5 w 1 (pv :: ((U 0).map Enc.c).flatten) (1 + (U 0).length) := by
    rw [U0]
    simpa [Nat.add_assoc] using ha5
  simp [jrow, kidsR_r x hfn]
  refine WK_loop tgrow (fun j s' h' => s' 10 = .int .i64 (j : Nat) ∧ h'.lo = 0 ∧ Acc h' (s' 5) 1 (pv :: ((U j).map Enc.c).flatten) (1 + (U j).length) ∧ Acc h' pv 1 ((nums k).map Enc.c).flatten k ∧ Apart pv (s' 5) ∧ h'.row it = some (Enc.c x) ∧ ¬ nm (s' 5) it ∧ it < h'.nx) ts.length w51_2 (by decide) ⟨by simp, lo5, by simpa using ha5', p5, by simpa using ap5, r5, by simpa using n5, it5⟩ ?_
  rintro j s6 h6 hj ⟨e10, lo6, a6, p6, ap6, r6, n6, it6⟩ hs6 hg6
  have t1 : s6 1 = .pi (Enc.c f) := (hs6 1 (by decide)).trans (by simp [g1])
  have t6 : s6 6 = .pi (wR f NL VL OL c false) := (hs6 6 (by decide)).trans (by simp [g6])
  have t7 : s6 7 = .int .i64 (q : Nat) := (hs6 7 (by decide)).trans (by simp [e7])
  have t8 : s6 8 = .pt it 0 := (hs6 8 (by decide)).trans (by simp)
  have t9 : s6 9 = sl (kids x) := (hs6 9 (by decide)).trans (by simp)
  clear hs6 hg6
  have hj2 : j < 9223372036854775807 := by omega
  by_cases hjt : j < ts.length
  case neg =>
    have hkk : ¬ j < (kids x).length := by omega
    have hjn : j = ts.length := by omega
    rw [hjn, Un] at a6
    simp [c51_2, e10, t9, hkk, t7, hq2, hql]
    exact ⟨lo6, a6, p6, ap6⟩
  have hkk : j < (kids x).length := by omega
  have hke : j < (edg x).length := by omega
  have er : (kids x)[j] = ts[j].root := by
    rw [hr j hjt hke]
    simp only [kids_edg, List.getElem_map]
  have hsj := hs j hjt (by rw [← hxe]; exact hke)
  have hrk := fun {h d r κ s Q} => pureK_eq (o := false) (h := h) (d := d) (r := r) (κ := κ) (s := s) (Q := Q) (refAt_p hf hsj) (.inr rfl)
  simp only [c_LFun] at hrk
  have jrow6 := r6
  simp only [c_LNode] at jrow6
  have hUj := Us j hjt hke
  obtain ⟨ek1, ek2⟩ := edg_get hke
  have hl4 := edg_fit hfn _ (List.getElem_mem hke)
  have hbk := hb _ (List.getElem_mem hke)
  have hAn := atL_nums hsj
  have hAs : (atL f ts[j]).Pairwise (· < ·) := by
    generalize ts[j] = u
    cases u; rw [atL]; exact un_sorted _ _
  simp [c51_2, e10, t1, t9, t8, hkk, evIdx_nat, rd1_ptr, er, hrk, jrow6, bindsR_r x hfn]
  generalize hE : (edg x)[j] = E at *
  obtain ⟨kk, l⟩ := E
  simp only at hUj hl4 hbk ek2
  have g15 : ∀ (hop : x.op = 9), ∃ hb : j < x.branches.length, x.branches[j].binds = l := fun hop => by
    have hb : j < x.branches.length := by
      unfold edg at hke; rw [if_pos hop] at hke; simpa using hke
    rw [dif_pos hop] at ek2
    exact ⟨hb, ek2.symm⟩
  have g15' : ¬ x.op = 9 → binds x = l := fun hop => by rw [dif_neg hop] at ek2; exact ek2.symm
  generalize atL f ts[j] = A at *
  refine condS_cut tgrow (fun s3 h3 => h3 = h6 ∧ s3 12 = sl l) [12, 79, 80, 81, 82, 83, 84] (by decide) (by decide) (by simp) (fun hc => ?_) (fun hc => ?_) (fun s7 h7 hP7 hs7 hg7 => ?_)
  · simp at hc
    obtain ⟨hb, e3⟩ := g15 hc
    simp [t8, jrow6, e10, evIdx_nat, rd1_ptr, hb, e3]
  · simp at hc
    simp [g15' hc]
  obtain ⟨rfl, q12⟩ := hP7
  have q5 : s7 5 = s6 5 := (hs7 5 (by decide)).trans (by simp)
  have q11 : s7 11 = sl A := (hs7 11 (by decide)).trans (by simp)
  have q10 : s7 10 = .int .i64 (j : Nat) := (hs7 10 (by decide)).trans (by simp [e10])
  clear hs7 hg7
  simp
  refine WK_loop tgrow (fun i s' h' => s' 13 = .int .i64 (i : Nat) ∧ h' = h7 ∧ s' 11 = sl (un A (l.take i))) l.length w51_3 (by decide) ⟨by simp, rfl, by rw [List.take_zero, un_nil hAs]; simpa using q11⟩ ?_
  rintro i s8 h8 hi ⟨e13, rfl, q11'⟩ hs8 hg8
  have u5 : s8 5 = s6 5 := (hs8 5 (by decide)).trans (by simp [q5])
  have u12 : s8 12 = sl l := (hs8 12 (by decide)).trans (by simp [q12])
  have u10 : s8 10 = .int .i64 (j : Nat) := (hs8 10 (by decide)).trans (by simp [q10])
  clear hs8 hg8
  have hi2 : i < 9223372036854775807 := by omega
  by_cases hil : i < l.length
  · have hn : Nums f.vars.length (un A (l.take i)) := un_nums hAn.2 fun y hy => by
      have := hbk y (List.mem_of_mem_take hy); exact ⟨this.1, this.2.2⟩
    have hnl := hn.length
    have hp := fun {h d r κ s Q} => pureK_eq (o := false) (h := h) (d := d) (r := r) (κ := κ) (s := s) (Q := Q) (put_p _ l[i] (un_sorted A (l.take i)) (by omega)) (.inr rfl)
    rw [un_step hil] at hp
    simp [c51_3, e13, u12, hil, q11', evIdx_nat, rd1_ptr, hp, hi2]
  have hin : i = l.length := by omega
  rw [hin, List.take_length] at q11'
  have hUl := Ul j
  simp [c51_3, e13, u12, hil, q11', u5, -WR_app]
  refine WR_app_acc (cs := pv :: ((U j).map Enc.c).flatten) (n := 1 + (U j).length) (m := 1) (ys := [sl (un A l)]) (by simpa using a6) (by simp; exact src_psl rfl) (by rfl) (by omega) (room (by omega)) (fun w h9 ha9 mv9 => ?_)
  simp at mv9
  have r9 : h9.row it = some (Enc.c x) := by rw [mv9.row it6 (nm_ne n6)]; exact r6
  have n9 : ¬ nm w it := fun ⟨z, o, n, e⟩ => mv9.ne it6 (nm_ne n6) z o n e
  have it9 : it < h9.nx := by have := mv9.grow.2; omega
  have lo9 : h9.lo = 0 := by rw [mv9.grow.1]; exact lo6
  simp [u10, hj2, hUj, hjt]
  refine ⟨lo9, ?_, p6.mv mv9 ap6, ap6.mv mv9 p6, r9, n9, it9⟩
  simpa [Nat.add_assoc] using ha9
end Go.Proofs.Ytbnfcdjlbabddaa

/- The law BlocksMoves, evaluated. -/
import Derived.Test.YtpdgjdnipkmocaaH6
set_option linter.unusedVariables false
set_option linter.unusedSimpArgs false
namespace Go.Proofs.Ytpdgjdnipkmocaa
open Go.Ev

theorem mvI_fit {t : List Int} {x : LInstr} (h : FitI x) : FitI (mvI t x) := ⟨h.1, h.2.1, by simp only [mvI, List.length_map]; exact h.2.2⟩
theorem mvB_fit {t : List Int} {b : LBlock} (h : FitB b) : FitB (mvB t b) := by
  obtain ⟨h1, h2, h3⟩ := h
  simp only [mvB, mvC]
  cases hx : b.code.getLast? with
  | none => exact ⟨by simp, h2, fun x hx => by cases hx⟩
  | some x =>
    refine ⟨?_, h2, fun y hy => ?_⟩
    · simp; omega
    · simp only [List.mem_append, List.mem_singleton] at hy
      rcases hy with hy | rfl
      · exact h3 y (List.dropLast_subset _ hy)
      · exact mvI_fit (h3 x (List.mem_of_getLast? hx))

theorem Moved.fit {p q : LProc} {t : List Int} (m : Moved p q t) (hp : Fit p) : Fit q := by
  have hm : ∀ b ∈ q.blocks, ∃ b0 ∈ p.blocks, b = mvB t b0 := fun b hb => by
    obtain ⟨i, hi, rfl⟩ := List.getElem_of_mem hb
    rw [m.len] at hi
    obtain ⟨a, ha, e⟩ := m.rn.surj (y := (i : Int)) ⟨by omega, by omega⟩
    have hba := m.at_ a ha.1 ha.2
    rw [e] at hba
    have hi' : i < q.blocks.length := by rw [m.len]; exact hi
    have : blockAt q (i : Int) = q.blocks[i] := by simp [blockAt, hi']
    rw [this] at hba
    exact ⟨_, blockAt_mem (by omega), hba⟩
  refine ⟨⟨by rw [m.len]; exact hp.1.1, fun b hb => ?_⟩, by rw [m.same]; exact hp.2.1, fun b hb x hx => ?_⟩
  · obtain ⟨b0, h0, rfl⟩ := hm b hb; exact mvB_fit (hp.1.2 b0 h0)
  · obtain ⟨b0, h0, rfl⟩ := hm b hb; exact hp.2.2 b0 h0 x hx

theorem rep_zeroB {S : Nat → Prop} {h : AH} : ∀ n : Nat, RepL (Rep S h 4) (List.replicate n [PV.emp, PV.str ⟨#[]⟩, PV.emp]).flatten ((List.replicate n (⟨[], ⟨#[]⟩, []⟩ : LBlock)).map Enc.c).flatten
  | 0 => trivial
  | n + 1 => ⟨⟨1, [], rfl, rfl, (fun _ _ _ _ e => by cases e), trivial⟩, by simp, ⟨1, [], rfl, rfl, (fun _ _ _ _ e => by cases e), trivial⟩, rep_zeroB n⟩

theorem BlocksMoves_p (p : LProc) (hs : Smc.sm 1048576 p) (l : List Int) : Pure T 9 [.agg (Enc.c p), sl l] (.bool true) true := by
  refine ⟨c9, rfl, rfl, ?_⟩
  simp [c9, few_r p]
  cases hf : fewP p
  · simp [awake_r]
  have hp := fit_of hf hs
  have hp1 := hp.1.1
  by_cases h30 : (30 : Int) < l.length
  · simp [h30, awake_r]
  simp [h30]
  refine condS_split (fun he => ?_) (fun he => ?_)
  · simp [awake_r]
  simp [Tidy_r p hp]
  cases hl : laid p
  · simp [zeroP, hl, awake_r]
  have hlp := laid_true hl
  have hN0 := laid_pos hl he
  have r8 : roomOk p.blocks.length (8 + 1) = true := room (by omega)
  have r48 : roomOk p.blocks.length (64 + 1) = true := room (by omega)
  simp [hl, evMks_nat, r8, r48]
  refine mv_fill p.blocks.length 1 hp1 (by simp) (by simp) (by simp) (by simp) (by simp) (fun s1 h1 hs1 hr1 o1 => ?_)
  have f1 : s1 1 = sl l := (hs1 1 (by decide)).trans (by simp)
  have f2 : s1 2 = .pi (Enc.c p) := (hs1 2 (by decide)).trans (by simp)
  have f4 : s1 4 = .bool false := (hs1 4 (by decide)).trans (by simp)
  have f5 : s1 5 = .pt 0 0 := (hs1 5 (by decide)).trans (by simp)
  have f7 : s1 7 = .rf 1 1 0 p.blocks.length := (hs1 7 (by decide)).trans (by simp)
  have b0 : h1.row 0 = some (Enc.c (tidyP p)) := by simp only [AH.row, o1.2.2 0 (by decide)]; simp
  have nx1 : h1.nx = 2 := o1.1
  have lo1 : h1.lo = 0 := o1.2.1
  simp [f1]
  refine mv_swap p.blocks.length 1 hp1 l (by omega) (by simp [f7]) (by simp) (by simp) (by simp) hr1 (by omega) (fun s2 h2 t hs2 rn hr2 o2 => ?_)
  have g2 : s2 2 = .pi (Enc.c p) := (hs2 2 (by decide)).trans (by simp [f2])
  have g4 : s2 4 = .bool false := (hs2 4 (by decide)).trans (by simp [f4])
  have g5 : s2 5 = .pt 0 0 := (hs2 5 (by decide)).trans (by simp [f5])
  have g7 : s2 7 = .rf 1 1 0 p.blocks.length := (hs2 7 (by decide)).trans (by simp [f7])
  have b1 : h2.row 0 = some (Enc.c (tidyP p)) := by simp only [AH.row, o2.2.2 0 (by decide)]; exact b0
  have nx2 : h2.nx = 2 := by rw [o2.1]; exact nx1
  have lo2 : h2.lo = 0 := by rw [o2.2.1]; exact lo1
  simp [g2, g5, evMks_nat, r8, r48, nx2, lo2]
  have m0 : MR p t 0 2 1 3 0 ((h2.push (.cells (pcell p (sl p.params) (sl p.sig.params) (sl p.sig.result) (.rf 3 3 0 p.blocks.length)))).push (.cells (List.replicate p.blocks.length [PV.emp, PV.str ⟨#[]⟩, PV.emp]).flatten)) := by
    refine ⟨by simp [nx2]; simpa using b1, by simp [nx2], by simp [nx2]; exact hr2, by simp [nx2], by simp [lo2], _, List.replicate p.blocks.length ⟨[], ⟨#[]⟩, []⟩, fun _ => False, by simp [nx2], by simp, rep_zeroB _, fun _ q => q.elim, fun a ha => by omega⟩
  refine mv_blocks p hp.1 hlp t rn 0 2 1 3 (by decide) (by decide) (by decide) (by simp [g7]) (by simp) (by simp) (by simp) (by simp) m0 (fun s3 h3 hs3 m3 => ?_)
  have k2 : s3 2 = .pi (Enc.c p) := (hs3 2 (by decide)).trans (by simp [g2])
  have k4 : s3 4 = .bool false := (hs3 4 (by decide)).trans (by simp [g4])
  have k5 : s3 5 = .pt 0 0 := (hs3 5 (by decide)).trans (by simp [g5])
  have k11 : s3 11 = .pt 2 0 := (hs3 11 (by decide)).trans (by simp)
  obtain ⟨r5, r11, rt, ⟨t5, t11, tt, tb⟩, lo3, cells, qb, S, rb, hqb, rqb, sS, hat⟩ := m3
  have mv : Moved p { p with blocks := qb } t := by
    refine ⟨rfl, hqb, rn, fun a h0 h1 => ?_⟩
    have := hat a.toNat (by omega)
    rw [show ((a.toNat : Nat) : Int) = a by omega] at this
    simp only [blockAt] at this ⊢
    rw [this]; rfl
  generalize hq : ({ p with blocks := qb } : LProc) = q at mv
  have hqb' : q.blocks = qb := by rw [← hq]
  have hqf := mv.fit hp
  have hql := laid_is (mv.lay hlp)
  have htid := mv.tid hl
  have hpc : pcell p (sl p.params) (sl p.sig.params) (sl p.sig.result) (.rf 3 3 0 p.blocks.length) = pcell q (sl q.params) (sl q.sig.params) (sl q.sig.result) (.rf 3 3 0 p.blocks.length) := by rw [← hq]; rfl
  rw [hpc] at r11
  have hrow : Rep (fun _ => True) h3 5 (.rf 3 3 0 p.blocks.length) (sl q.blocks) := by
    rw [hqb']
    have hcl : cells.length = p.blocks.length * 3 := by rw [rqb.length, flat_len', hqb]; rfl
    refine ⟨3, cells, ?_, by rw [hqb]; exact hcl, fun z i o m e => by cases e; exact ⟨rfl, trivial, tb⟩, rqb.imp fun _ _ q => q.mono fun _ _ => trivial⟩
    rw [hqb, src_rf, rb, rowSrc_some (by omega), List.drop_zero, List.take_of_length_le (by omega)]
  simp [k11, r11, pcell]
  have hlo3 : h3.lo ≤ h3.nx := by omega
  refine TidyE_c q (S := fun _ => True) (m0 := 0) (by decide) (Rep.data (by simp) rs_LVar _) (Rep.data (by simp) (rs_sl (by simp) rs_str) _) (Rep.data (by simp) rs_str _) hrow hqf hql hlo3 (fun cs h4 rcs k4' => ?_)
  have hcs : cs.length = 9 := by rw [rcs.length]; rfl
  have u0 : h4.row 0 = some (Enc.c (tidyP p)) := by rw [k4'.row t5]; exact r5
  have u2 : h4.row 2 = some (pcell q (sl q.params) (sl q.sig.params) (sl q.sig.result) (.rf 3 3 0 p.blocks.length)) := by rw [k4'.row t11]; exact r11
  have lo4 : h4.lo = 0 := by rw [k4'.2.1]; exact lo3
  have nx4 : h3.nx ≤ h4.nx := k4'.1
  have ne0 : ¬ 0 = h4.nx := by omega
  have ne2 : ¬ 2 = h4.nx := by omega
  have q7 : snap (h4.push (.cells cs)) 11 (.rf 3 3 0 p.blocks.length) = some (sl q.blocks) := (((hrow.kept k4').kept (.push _ _)).deep (d' := 11) (by decide)).snap
  have qcs : allO (snap (h4.push (.cells cs)) 11) cs = some (Enc.c (tidyP q)) := RepL.allO (rcs.imp fun _ _ q => q.kept (.push _ _))
  have htk : cs.take 9 = cs := List.take_of_length_le (by omega)
  simp [k2, k5, k11, u0, u2, pcell, hcs, lo4, ne0, ne2, htk, q7]
  have hsm : sameP p q = true := by simp [sameP, hl, hql, htid, eqv_refl]
  rw [Same_r p q hp hqf, hsm]
  rw [htid] at qcs
  have hct := fitC_of (tidyP_fit hp)
  have qcs' : allO (snap (h4.push (.cells cs)) 11) cs = some (Enc.c (tidyP p)) := qcs
  simp only [c_LProc] at qcs
  simp [k5, u0, hcs, htk, qcs, ne0, sameProc_r (tidyP p) (tidyP p) hct hct, eqv_refl, awake_r]
def shInts : Sh := .sl shInt
theorem shInts_is : shT Try.prog 8 38 = some shInts := by kernel_rfl
def mkInts (y : shInts.den) : List Int := List.map (fun (x : shInt.den) => (x : Int)) y
theorem ints_pv (y : shInts.den) : shInts.pv y = [sl (mkInts y)] := sl_eq (e := shInt) (β := Int) (g := fun x => x) (fun x => rfl) y

theorem law_blocksMoves (x : shProc.den) (o : shProc.ok x ∧ shProc.small 1048576 x) (y : shInts.den) (o' : shInts.ok y ∧ shInts.small 1048576 y) : ∃ g, CE T 9 [.agg (shProc.pv x), (shInts.pv y).headD .emp] AH.zero (.bool true) g := by
  rw [mkProc_c, ints_pv]
  exact ⟨AH.zero, (BlocksMoves_p (mkProc x) (mkProc_sm x o.2) (mkInts y)).ce (by simp) (.inl rfl)⟩
end Go.Proofs.Ytpdgjdnipkmocaa

/- BlocksMoves: the loop over the blocks. -/
import Derived.Test.YtpdgjdnipkmocaaH5
set_option linter.unusedVariables false
set_option linter.unusedSimpArgs false
namespace Go.Proofs.Ytpdgjdnipkmocaa
open Go.Ev

section
variable {κ : List KF} {s : Fr} {h : AH} {Q : Fr → AH → Prop}

theorem evNilchk_pt {i o : Nat} : evNilchk (.pt i o) = some (.pt i o) := rfl

theorem mv_in (N it : Nat) (t : List Int) (ht : t.length = N) (hN : N ≤ 1000) (l : List Int) (hl : l.length ≤ 1000) (hb : ∀ v ∈ l, 0 ≤ v ∧ v < (N : Int)) (e7 : s 7 = .rf 1 it 0 N) (e16 : s 16 = .emp) (e120 : s 120 = sl l) (e121 : s 121 = .int .i64 (l.length : Int)) (e122 : s 122 = .int .i64 0)
    (hr : h.row it = some (t.map (PV.int .i64))) (hit : it < h.nx) (hlw : h.lo ≤ h.nx)
    (next : ∀ s' h', (∀ t, t ∉ w9_3 → s' t = s t) → Acc h' (s' 16) 1 ((l.map (ren t)).map Enc.c).flatten l.length → Mv h .emp h' (s' 16) → WK T .skip κ s' h' Q) : WK T (.loop c9_3) (.block 6 :: κ) s h Q := by
  refine WK_range tgrow (fun (k : Nat) (s' : Fr) (h' : AH) => Acc h' (s' 16) 1 (((l.take k).map (ren t)).map Enc.c).flatten k ∧ Mv h .emp h' (s' 16)) l.length w9_3 rfl (by decide) e122 e121 (by omega) (by decide) (fun k s1 h1 s2 j hne => by rw [hne 16 (by decide) (by decide) (by decide)]; exact j) ⟨by rw [e16]; exact Acc.emp, by rw [e16]; exact Mv.refl _ _⟩ ?_ ?_
  · rintro k s' h' hk ⟨ja, jm⟩ hi hs hg
    have f7 : s' 7 = .rf 1 it 0 N := (hs 7 (by decide)).trans e7
    have f120 : s' 120 = sl l := (hs 120 (by decide)).trans e120
    have hr' : h'.row it = some (t.map (PV.int .i64)) := by rw [jm.row hit (by simp)]; exact hr
    obtain ⟨x0, x1⟩ := hb _ (List.getElem_mem hk)
    generalize hx : l[k] = x at x0 x1
    have b3 : x.toNat < N := by omega
    have b4 : x.toNat < t.length := by omega
    simp [hi, f120, f7, evIdx_nat, rd1_ptr, hk, hx, evIdx_rfi x0 b3, hr', b4, -WR_app]
    refine WR_app_acc (m := 1) (ys := [.int .i64 t[x.toNat]]) (by simpa using ja) (by simp; exact src_psl rfl) (by rfl) (by have := jm.grow; omega) (room (by simp; omega)) (fun v1 h2 ha1 hm1 => ?_)
    simp [hi]
    refine ⟨?_, jm.trans (by simpa using hm1)⟩
    have e : (((l.take (k + 1)).map (ren t)).map Enc.c).flatten = (((l.take k).map (ren t)).map Enc.c).flatten ++ [.int .i64 t[x.toNat]] := by
      rw [take_succ' hk, List.map_append, List.map_append, List.flatten_append, hx, ← ren_at b4]; rfl
    simp only [List.map_take, List.map_map] at e ha1 ⊢
    rw [e]
    exact ha1
  · rintro s' h' ⟨ja, jm⟩ hs hg
    rw [List.take_length] at ja
    exact next s' h' hs ja jm

/-- The memory before round k of the loop over the blocks. -/
structure MR (p : LProc) (t : List Int) (i5 i11 it ib k : Nat) (h' : AH) : Prop where
  r5 : h'.row i5 = some (Enc.c (tidyP p))
  r11 : h'.row i11 = some (pcell p (sl p.params) (sl p.sig.params) (sl p.sig.result) (.rf 3 ib 0 p.blocks.length))
  rt : h'.row it = some (t.map (PV.int .i64))
  lt : i5 < h'.nx ∧ i11 < h'.nx ∧ it < h'.nx ∧ ib < h'.nx
  lo : h'.lo = 0
  out : ∃ cells, ∃ qb : List LBlock, ∃ S : Nat → Prop, h'.row ib = some cells ∧ qb.length = p.blocks.length ∧ RepL (Rep S h' 4) cells (qb.map Enc.c).flatten ∧
    (∀ i, S i → i ≠ ib) ∧ ∀ a : Nat, a < k → qb[(ren t a).toNat]? = some (mvB t (blockAt p a))

theorem mv_blocks (p : LProc) (hp : FitP p) (hl : laidP p) (t : List Int) (rn : Ren p.blocks.length t) (i5 i11 it ib : Nat) (n5 : i5 ≠ ib) (n11 : i11 ≠ ib) (nt : it ≠ ib)
    (e7 : s 7 = .rf 1 it 0 p.blocks.length) (e11 : s 11 = .pt i11 0) (e102 : s 102 = sl p.blocks) (e103 : s 103 = .int .i64 (p.blocks.length : Int)) (e104 : s 104 = .int .i64 0) (m0 : MR p t i5 i11 it ib 0 h)
    (next : ∀ s' h', (∀ t, t ∉ w9_2 → s' t = s t) → MR p t i5 i11 it ib p.blocks.length h' → WK T .skip κ s' h' Q) : WK T (.loop c9_2) (.block 4 :: κ) s h Q := by
  have hp1 := hp.1
  refine WK_range tgrow (fun (k : Nat) (_ : Fr) (h' : AH) => MR p t i5 i11 it ib k h') p.blocks.length w9_2 rfl (by decide) e104 e103 (by omega) (by decide) (fun _ _ _ _ j _ => j) m0 ?_ ?_
  · rintro k s' h' hk mj hi hs hg
    have f7 : s' 7 = .rf 1 it 0 p.blocks.length := (hs 7 (by decide)).trans e7
    have f11 : s' 11 = .pt i11 0 := (hs 11 (by decide)).trans e11
    have f102 : s' 102 = sl p.blocks := (hs 102 (by decide)).trans e102
    have hbm := List.getElem_mem hk
    have hba : blockAt p (k : Int) = p.blocks[k] := by simp [blockAt, hk]
    generalize hbb : p.blocks[k] = b at hbm hba
    have fb := hp.2 b hbm
    obtain ⟨x, hxl, _, _, hjo⟩ := hl.2 b hbm
    have hbl : 0 < b.code.length := by
      cases hc : b.code with
      | nil => rw [hc] at hxl; cases hxl
      | cons _ _ => simp
    have hcn : b.code.length - 1 < b.code.length := by omega
    have hx : b.code[b.code.length - 1] = x := by
      have := getLast_eq hbl
      rw [hxl] at this
      exact (Option.some.inj this).symm
    have hw : IntKind.i64.wrap ((b.code.length : Int) - 1) = ((b.code.length - 1 : Nat) : Int) := by rw [w64 (by have := fb.1; omega)]; omega
    obtain ⟨cells, qb, S', erb, hqb, rqb, sS, hat⟩ := mj.out
    obtain ⟨t5, t11, tt, tb⟩ := mj.lt
    have lo0 := mj.lo
    have er5 := mj.r5
    have er11 := mj.r11
    have ert := mj.rt
    have hlo0 : h'.lo ≤ h'.nx := by omega
    simp [hi, f102, evIdx_nat, rds_ptr, hk, hbb, hlo0]
    refine opH_cloneO (n := b.code.length) (cs := (b.code.map Enc.c).flatten) (src_psl (flat_len' _)) (flat_len' _) (by decide) (by simp; omega) (room (by have := fb.1; omega)) (fun v8 h2 a8 m8 => ?_)
    have g8 := m8.grow
    simp at g8
    obtain ⟨l8, ⟨_, c0⟩ | ⟨ic, rfl, rc, hic, loc⟩⟩ := a8
    · omega
    have r13 : h2.row h'.nx = some (Enc.c b) := by rw [m8.row (by simp) (by simp)]; simp
    have old2 : ∀ i, i < h'.nx → h2.blk i = h'.blk i := fun i hi => by rw [m8.blk (by simp; omega) (by simp), blk_push, if_neg (by omega)]
    have hicn : h'.nx < ic := by
      rcases m8.2 with q | q | ⟨_, _, _, _, q, hi⟩
      · cases q
      · cases q
      · cases q; simp at hi; omega
    have hchunk : ((b.code.map Enc.c).flatten.drop ((b.code.length - 1) * 8)).take 8 = Enc.c b.code[b.code.length - 1] := flat_chunk b.code _ hcn
    have hle8 : (b.code.length - 1) * 8 + 8 ≤ (b.code.map Enc.c).flatten.length := by rw [l8]; omega
    rw [hx] at hchunk
    generalize hX : (b.code.map Enc.c).flatten = X at *
    have hx7 : X[(b.code.length - 1) * 8 + 7]? = some (sl x.jump) := by
      have := congrArg (fun l => l[7]?) hchunk
      simpa [List.getElem?_take, List.getElem?_drop] using this
    have hlt7 : (b.code.length - 1) * 8 + 7 < X.length := by omega
    simp [evIdx_rf hcn, hw, rc, hx7, hle8, evNilchk_pt]
    refine mv_in p.blocks.length it t rn.len hp1 x.jump (fb.2.2 x (List.mem_of_getLast? hxl)).2.2 hjo (by simp [f7]) (by simp) (by simp) (by simp) (by simp) ?_ ?_ ?_ (fun s3 h3 hs3 a16 m16 => ?_)
    · simp only [AH.row, old2 it tt]; exact ert
    · omega
    · omega
    have g13 : s3 13 = .pt h'.nx 0 := (hs3 13 (by decide)).trans (by simp)
    have g14 : s3 14 = .rf 8 ic 0 b.code.length := (hs3 14 (by decide)).trans (by simp)
    have g15 : s3 15 = .pt ic ((b.code.length - 1) * 8) := (hs3 15 (by decide)).trans (by simp)
    have g12 : s3 12 = .int .i64 (k : Nat) := (hs3 12 (by decide)).trans (by simp)
    have g11 : s3 11 = .pt i11 0 := (hs3 11 (by decide)).trans (by simp [f11])
    have g7 : s3 7 = .rf 1 it 0 p.blocks.length := (hs3 7 (by decide)).trans (by simp [f7])
    have g104 : s3 104 = .int .i64 (k : Nat) := (hs3 104 (by decide)).trans (by simp [hi])
    generalize hv16 : s3 16 = v16 at *
    have g16 := m16.grow
    have loc3 : h3.lo ≤ ic := by omega
    have rc3 : h3.row ic = some X := by rw [m16.row (by omega) (by simp)]; exact rc
    have r13' : h3.row h'.nx = some (Enc.c b) := by rw [m16.row (by omega) (by simp)]; exact r13
    have n16c : ¬ nm v16 ic := fun ⟨z, o, n, e⟩ => m16.ne (by omega) (by simp) z o n e
    have n16o : ∀ i, nm v16 i → h2.nx ≤ i := fun i ⟨z, o, n, e⟩ => by
      rcases m16.2 with q | q | ⟨_, _, _, _, q, hi⟩
      · rw [q] at e; cases e
      · rw [q] at e; cases e
      · rw [q] at e; cases e; exact hi
    have old3 : ∀ i, i < h'.nx → h3.blk i = h'.blk i := fun i hi => by rw [m16.blk (by omega) (by simp), old2 i hi]
    have s5 : h3.row i5 = some (Enc.c (tidyP p)) := by simp only [AH.row, old3 i5 t5]; exact er5
    have s11 : h3.row i11 = some (pcell p (sl p.params) (sl p.sig.params) (sl p.sig.result) (.rf 3 ib 0 p.blocks.length)) := by simp only [AH.row, old3 i11 t11]; exact er11
    have st : h3.row it = some (t.map (PV.int .i64)) := by simp only [AH.row, old3 it tt]; exact ert
    have sb : h3.row ib = some cells := by simp only [AH.row, old3 ib tb]; exact erb
    have hkt : k < t.length := by rw [rn.len]; exact hk
    obtain ⟨y0, y1⟩ := rn.bd _ (List.getElem_mem hkt)
    have hren : ren t (k : Int) = t[k] := by rw [ren_at (by simpa using hkt)]; simp
    generalize hy : t[k] = y at *
    have y2 : y.toNat < p.blocks.length := by omega
    have lob : h3.lo ≤ ib := by omega
    have lo3 : h3.lo ≤ ic := by omega
    have nc1 : ¬ ic = i11 := by omega
    have nc2 : ¬ it = ic := by omega
    have nc3 : ¬ i11 = ic := by omega
    have nc4 : ¬ h'.nx = ic := by omega
    have nc5 : ¬ ib = ic := by omega
    have hcl : cells.length = p.blocks.length * 3 := by rw [rqb.length, flat_len', hqb]; rfl
    have hyl : y.toNat * 3 + 3 ≤ cells.length := by omega
    have ktm : (t.map (PV.int .i64))[k]? = some (.int .i64 y) := by rw [List.getElem?_map, List.getElem?_eq_getElem hkt, hy]; rfl
    generalize hTM : t.map (PV.int .i64) = TM at *
    have ktl : k < TM.length := by rw [← hTM, List.length_map]; exact hkt
    have htmk : TM[k] = .int .i64 y := by rw [List.getElem?_eq_getElem ktl] at ktm; exact Option.some.inj ktm
    simp [g7, g11, g12, g13, g14, g15, hv16, evNilchk_pt, rc3, hlt7, loc3, a16.one, s11, pcell, nc1, nc2, nc3, nc4, nc5, evIdx_rf hk, st, ktl, htmk, r13', evIdx_rfi y0 y2, sb, lob]
    rw [show ∀ hh, wrA hh ib (some cells) (y.toNat * 3) 3 [sl b.regs, .str b.free, .rf 8 ic 0 b.code.length] = some (hh.set ib (.cells (splice cells (y.toNat * 3) [sl b.regs, .str b.free, .rf 8 ic 0 b.code.length]))) from fun hh => wrA_some ⟨rfl, hyl⟩]
    have hdl : b.code = b.code.dropLast ++ [x] := by
      have h1 := List.dropLast_concat_getLast (l := b.code) (by intro q; rw [q] at hbl; simp at hbl)
      rw [List.getLast_eq_getElem, hx] at h1
      exact h1.symm
    have hXs : X = (b.code.dropLast.map Enc.c).flatten ++ Enc.c x := by
      rw [← hX]
      conv => lhs; rw [hdl]
      rw [List.map_append, List.flatten_append]; simp
    have hdn : ((b.code.dropLast.map Enc.c).flatten).length = (b.code.length - 1) * 8 := by rw [flat_len', List.length_dropLast]; rfl
    have hsp : X.set ((b.code.length - 1) * 8 + 7) v16 = (b.code.dropLast.map Enc.c).flatten ++ icell x v16 := by
      rw [hXs, List.set_append_right _ _ (by omega), hdn, Nat.add_sub_cancel_left]
      rfl
    rw [hsp]
    have hmvc : mvC t b.code = b.code.dropLast ++ [mvI t x] := by simp only [mvC, hxl]
    have hmvl : (mvC t b.code).length = b.code.length := by rw [hmvc]; simp; omega
    have hlY : ((b.code.dropLast.map Enc.c).flatten ++ icell x v16).length = b.code.length * 8 := by
      rw [List.length_append, hdn, icell_len]; omega
    generalize hh6 : (h3.set ic (.cells ((b.code.dropLast.map Enc.c).flatten ++ icell x v16))).set ib (.cells (splice cells (y.toNat * 3) [sl b.regs, .str b.free, .rf 8 ic 0 b.code.length])) = h6
    simp only [Option.map_some, opH_some, WR_nil, WK_skip_abs, rangeQ_nrm]
    have nx6 : h6.nx = h3.nx := by rw [← hh6]; rfl
    have lo6 : h6.lo = h3.lo := by rw [← hh6]; rfl
    have rc6 : h6.row ic = some ((b.code.dropLast.map Enc.c).flatten ++ icell x v16) := by rw [← hh6]; simp; omega
    have rb6 : h6.row ib = some (splice cells (y.toNat * 3) [sl b.regs, .str b.free, .rf 8 ic 0 b.code.length]) := by rw [← hh6]; simp
    have bk6 : ∀ i, i ≠ ic → i ≠ ib → h6.blk i = h3.blk i := fun i q1 q2 => by rw [← hh6, blk_set, if_neg q2, blk_set, if_neg q1]
    have a166 : Acc h6 v16 1 ((x.jump.map (ren t)).map Enc.c).flatten x.jump.length := a16.of_nm (by omega) lo6 fun i hi _ => bk6 i (fun q => n16c (q ▸ hi)) fun q => by have := n16o i hi; omega
    refine ⟨by simp [g104], ?_, ?_, ?_, ⟨by omega, by omega, by omega, by omega⟩, by omega, _, qb.set y.toNat (mvB t b), fun i => (S' i ∧ i < h'.nx) ∨ i = ic ∨ nm v16 i, rb6, by rw [List.length_set, hqb], ?_, ?_, ?_⟩
    · rw [← s5]; simp only [AH.row, bk6 i5 (by omega) n5]
    · rw [← s11]; simp only [AH.row, bk6 i11 (by omega) n11]
    · rw [hTM, ← st]; simp only [AH.row, bk6 it (by omega) nt]
    · rw [← flat_set qb y.toNat (by omega) (mvB t b)]
      refine RepL.splice _ (rqb.imp fun _ _ q => (q.below.agree (by omega) fun i hi hlt => (bk6 i (by omega) (sS i hi.1)).trans (old3 i hi.2)).mono fun i hi => .inl hi) ⟨?_, by simp [mvB], ⟨8, (b.code.dropLast.map Enc.c).flatten ++ icell x v16, ?_, ?_, fun z i o m e => ?_, ?_⟩, trivial⟩
      · exact Rep.data (by simp) rs_LReg _
      · simp only [mvB]
        rw [hmvl, src_rf, rc6, rowSrc_some (by omega), List.drop_zero, List.take_of_length_le (by omega)]
      · simp only [mvB]
        rw [hmvl]; exact hlY
      · cases e; exact ⟨rfl, .inr (.inl rfl), by omega⟩
      · simp only [mvB]
        rw [hmvc, List.map_append, List.flatten_append]
        refine RepL.append (RepL.mk rfl fun q hq _ => ?_) ?_
        · obtain ⟨cs, z1, z2⟩ := List.mem_flatten.1 (List.getElem_mem hq)
          obtain ⟨y', _, rfl⟩ := List.mem_map.1 z1
          exact rs_LInstr (d := 1) y' _ z2
        · refine ⟨by simp [mvI], by simp [mvI], Rep.data (by simp) rs_int _, Rep.data (by simp) rs_int _, by simp [mvI], by simp [mvI], by simp [mvI], ?_, trivial⟩
          exact Acc.rep (α := Int) (d := 2) a166 (by simp [mvI]) (fun i hi => .inr (.inr hi)) rs_int
    · intro i hi
      rcases hi with hi | rfl | hi
      · exact sS i hi.1
      · omega
      · have := n16o i hi; omega
    · intro a ha
      by_cases hak : a = k
      · subst hak
        rw [hren, hba, List.getElem?_set_self (by omega)]
      · rw [List.getElem?_set_ne, hat a (by omega)]
        intro q
        have r0 : (a : Int) = (k : Int) := by
          refine rn.inj (by omega) (by omega) ?_
          have b0 : a < t.length := by rw [rn.len]; omega
          have := rn.bd t[a] (List.getElem_mem b0)
          have e1 : ren t (a : Int) = t[a] := by rw [ren_at (by simpa using b0)]; simp
          rw [hren, e1]
          rw [e1] at q
          omega
        omega
  · intro s' h' mj hs hg
    exact next s' h' hs mj
end
end Go.Proofs.Ytpdgjdnipkmocaa

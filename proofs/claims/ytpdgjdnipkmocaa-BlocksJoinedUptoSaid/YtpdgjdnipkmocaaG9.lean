/- The reference's 'Tidy'. -/
import Derived.Test.YtpdgjdnipkmocaaG8
set_option linter.unusedVariables false
set_option linter.unusedSimpArgs false
namespace Go.Proofs.Ytpdgjdnipkmocaa
open Go.Ev

/-- The memory of the reference's 'Tidy' before round k. -/
structure TR (p : LProc) (l : List Int) (i2 i5 : Nat) (k : Nat) (h' : AH) : Prop where
  r2 : h'.row i2 = some zero9
  ne : i2 ≠ i5
  lt : i2 < h'.nx ∧ i5 < h'.nx
  lo : h'.lo = 0
  out : ∃ bv bs, ∃ S : Nat → Prop, h'.row i5 = some (pcell p (sl p.params) (sl p.sig.params) (sl p.sig.result) bv) ∧ Acc h' bv 3 bs k ∧
    RepL (Rep S h' 4) bs (((l.take k).map fun a => tidyB l (blockAt p a)).map Enc.c).flatten ∧ (∀ i, S i → i ≠ i5 ∧ i ≠ i2 ∧ ¬ nm bv i) ∧ ¬ nm bv i5 ∧ ¬ nm bv i2

theorem tidyR_in (l : List Int) (hl : l.length ≤ 100000) (x : LInstr) (hx : x.jump.length ≤ 1000) {i9 : Nat} {κ : List KF} {s : Fr} {h : AH} {Q : Fr → AH → Prop} (e4 : s 4 = sl l) (e9 : s 9 = .pt i9 0) (e10 : s 10 = .emp) (e11 : s 11 = .int .i64 0) (r9 : h.row i9 = some (Enc.c x)) (h9 : i9 < h.nx) (hlw : h.lo ≤ h.nx)
    (next : ∀ s' h', (∀ t, t ∉ w20_1 → s' t = s t) → Acc h' (s' 10) 1 ((x.jump.map (idxOf l)).map Enc.c).flatten x.jump.length → Mv h .emp h' (s' 10) → WK T .skip κ s' h' Q) : WK T (.loop c20_1) (.block 2 :: κ) s h Q := by
  refine WK_loop tgrow (fun k s' h' => s' 11 = .int .i64 (k : Nat) ∧ Acc h' (s' 10) 1 (((x.jump.take k).map (idxOf l)).map Enc.c).flatten k ∧ Mv h .emp h' (s' 10)) x.jump.length w20_1 (by decide) ⟨by simp [e11], by rw [e10]; exact Acc.emp, by rw [e10]; exact Mv.refl _ _⟩ ?_
  rintro k s' h' hk ⟨e11, ja, jm⟩ hs hg
  have f4 : s' 4 = sl l := (hs 4 (by decide)).trans e4
  have f9 : s' 9 = .pt i9 0 := (hs 9 (by decide)).trans e9
  have r9' : h'.row i9 = some (Enc.c x) := by rw [jm.row h9 (by simp)]; exact r9
  simp [c20_1, e11, f9, r9']
  refine condS_split (fun hkl => ?_) (fun hkl => ?_) <;> simp at hkl
  · have hk2 : k < 9223372036854775807 := by omega
    simp [e11, f4, f9, r9', evIdx_nat, rd1_ptr, hkl, place_r l _ (show l.length ≤ 1000000 by omega), -WR_app]
    refine WR_app_acc (m := 1) (ys := [.int .i64 (idxOf l x.jump[k])]) (by simpa using ja) (by simp; exact src_psl rfl) (by rfl) (by have := jm.grow; omega) (room (by simp; omega)) (fun v1 h2 ha1 hm1 => ?_)
    simp [e11, hk2, hkl]
    refine ⟨?_, jm.trans (by simpa using hm1)⟩
    have e : (((x.jump.take (k + 1)).map (idxOf l)).map Enc.c).flatten = (((x.jump.take k).map (idxOf l)).map Enc.c).flatten ++ [.int .i64 (idxOf l x.jump[k])] := by
      rw [take_succ' hkl, List.map_append, List.map_append, List.flatten_append]; rfl
    simp only [List.map_take, List.map_map] at e ha1 ⊢
    rw [e]
    exact ha1
  · have hkn : k = x.jump.length := by omega
    subst hkn
    rw [List.take_length] at ja
    simp
    refine next _ _ (fun t ht => ?_) ja jm
    have := hs t ht
    simp [w20_1] at ht
    simp [ht, this]

theorem tidyR_round (p : LProc) (hp : FitP p) (hl : laidP p) (l : List Int) (hN : Nums p.blocks.length l) (i2 i5 k : Nat) (hk : k < l.length) {s : Fr} {h' : AH} {Q : Fr → AH → Prop} {P : EX → Fr → AH → Prop} {κ : List KF}
    (e1 : s 1 = .pi (Enc.c p)) (e4 : s 4 = sl l) (e5 : s 5 = .pt i5 0) (e6 : s 6 = .int .i64 (k : Nat)) (tj : TR p l i2 i5 k h')
    (next : ∀ s2 h2, s2 6 = .int .i64 ((k + 1 : Nat) : Int) → TR p l i2 i5 (k + 1) h2 → P .nrm s2 h2) : WK T c20_0 (.abs P :: κ) s h' Q := by
  have hlen := hN.length
  have hp1 := hp.1
  obtain ⟨a0, a1⟩ := hN.2 _ (List.getElem_mem hk)
  generalize ha : l[k] = a at a0 a1
  have hb : a.toNat < p.blocks.length := by omega
  have hbm := List.getElem_mem hb
  generalize hbb : p.blocks[a.toNat] = b at hbm
  have hba : blockAt p a = b := by simp [blockAt, hb, hbb]
  have fb := hp.2 b hbm
  obtain ⟨y, hy, _⟩ := hl.2 b hbm
  have hbl : 0 < b.code.length := by
    cases hc : b.code with
    | nil => rw [hc] at hy; cases hy
    | cons _ _ => simp
  obtain ⟨bv, bs, S', er5, abv, rbs, sS, nb5, nb2⟩ := tj.out
  obtain ⟨t2, t5⟩ := tj.lt
  have lo0 := tj.lo
  have hcn : b.code.length - 1 < b.code.length := by omega
  have hw : IntKind.i64.wrap ((b.code.length : Int) - 1) = ((b.code.length - 1 : Nat) : Int) := by rw [w64 (by have := fb.1; omega)]; omega
  have hkl : (k : Int) < l.length := by omega
  have hlo0 : h'.lo ≤ h'.nx := by omega
  simp [c20_0, e1, e4, e5, e6, evIdx_nat, rd1_ptr, hk, ha, evIdx_sl, a0, hb, rds_ptr, hbb, hlo0, -WR_app]
  refine WR_app_acc (cs := []) (n := 0) (by simp; exact Acc.emp) (by simp; exact ⟨rfl, rfl⟩) (flat_len' _) (by simp; omega) (room (by have := fb.1; omega)) (fun v8 h2 a8 m8 => ?_)
  simp at m8
  simp only [List.nil_append, Nat.zero_add] at a8
  have g8 := m8.grow
  simp at g8
  obtain ⟨l8, ⟨_, c0⟩ | ⟨ic, rfl, rc, hic, loc⟩⟩ := a8
  · omega
  have r7 : h2.row h'.nx = some (Enc.c b) := by rw [m8.row (by simp) (by simp)]; simp
  have old2 : ∀ i, i < h'.nx → h2.blk i = h'.blk i := fun i hi => by rw [m8.blk (by simp; omega) (by simp), blk_push, if_neg (by omega)]
  have hicn : h'.nx < ic := by
    rcases m8.2 with q | q | ⟨_, _, _, _, q, hi⟩
    · cases q
    · cases q
    · cases q; simp at hi; omega
  have hchunk : ((b.code.map Enc.c).flatten.drop ((b.code.length - 1) * 8)).take 8 = Enc.c b.code[b.code.length - 1] := flat_chunk b.code _ hcn
  have hle8 : (b.code.length - 1) * 8 + 8 ≤ (b.code.map Enc.c).flatten.length := by rw [l8]; omega
  generalize hx : b.code[b.code.length - 1] = x at *
  generalize hX : (b.code.map Enc.c).flatten = X at *
  have hlo2 : h2.lo ≤ h2.nx := by omega
  have hnl : (Go.Proofs.Ytpdgjdnipkmocaa.next b).length ≤ 1000 := by
    have := jump_len hp a
    simpa [succ, hb, hbb] using this
  have hne7 : ¬ h'.nx = h2.nx := by omega
  simp [evIdx_rf hcn, hw, rc, hle8, hchunk, hlo2, r7, hne7, nextR_r b fb]
  have hxl : b.code.getLast? = some x := by rw [getLast_eq hbl, hx]
  have hnx : Go.Proofs.Ytpdgjdnipkmocaa.next b = if x.op = 8 ∨ x.op = 9 ∨ x.op = 11 then x.jump else [] := by simp only [Go.Proofs.Ytpdgjdnipkmocaa.next, hxl]
  have hdl : b.code = b.code.dropLast ++ [x] := by
    have h1 := List.dropLast_concat_getLast (l := b.code) (by intro q; rw [q] at hbl; simp at hbl)
    rw [List.getLast_eq_getElem, hx] at h1
    exact h1.symm
  have htc : tidyC l b.code = b.code.dropLast ++ [tidyI l x] := by simp only [tidyC, hxl]
  have htl : (tidyC l b.code).length = b.code.length := by rw [htc]; simp; omega
  have hxj : x.jump.length ≤ 1000 := (fb.2.2 x (List.mem_of_getLast? hxl)).2.2
  refine condS_cut tgrow (fun s4 h4 => ∃ S8 : Nat → Prop, Rep S8 h4 4 (.rf 8 ic 0 b.code.length) (sl (tidyC l b.code)) ∧ (∀ i, S8 i → h'.nx < i ∧ i < h4.nx) ∧ (∀ i, i < h2.nx → i ≠ ic → h4.blk i = h2.blk i)) (w20_1 ++ [10, 11, 65, 66, 67, 68, 69, 70, 71, 72]) (by decide) (by decide) (by simp) (fun hc => ?_) (fun hc => ?_) (fun s4 h4 hP hs4 hg4 => ?_)
  · have hj : Go.Proofs.Ytpdgjdnipkmocaa.next b = x.jump := by
      rw [hnx] at hc ⊢
      split
      · rfl
      · rename_i q; rw [if_neg q] at hc; simp at hc
    have hJ : isJ x = true := by
      rw [isJ_iff]
      rw [hnx] at hc
      by_cases q : x.op = 8 ∨ x.op = 9 ∨ x.op = 11
      · exact q
      · rw [if_neg q] at hc; simp at hc
    have hti : tidyI l x = { x with jump := x.jump.map (idxOf l) } := by simp only [tidyI, hJ, if_true]
    simp
    refine tidyR_in l (by omega) x hxj (i9 := h2.nx) (by simp [e4]) (by simp) (by simp) (by simp) (by simp) (by simp) (by simp; omega) (fun s3 h3 hs3 a10 m10 => ?_)
    have g9 : s3 9 = .pt h2.nx 0 := (hs3 9 (by decide)).trans (by simp)
    have g8' : s3 8 = .rf 8 ic 0 b.code.length := (hs3 8 (by decide)).trans (by simp)
    generalize hv10 : s3 10 = v10 at *
    have g10 := m10.grow
    simp at g10
    have r9 : h3.row h2.nx = some (Enc.c x) := by rw [m10.row (by simp) (by simp)]; simp
    have rc3 : h3.row ic = some X := by rw [m10.row (by simp; omega) (by simp)]; simp [rc]; omega
    have n109 : ¬ nm v10 h2.nx := fun ⟨z, o, n, e⟩ => m10.ne (by simp) (by simp) z o n e
    have n10c : ¬ nm v10 ic := fun ⟨z, o, n, e⟩ => m10.ne (by simp; omega) (by simp) z o n e
    have lo9 : h3.lo ≤ h2.nx := by omega
    have loc3 : h3.lo ≤ ic := by omega
    have hne9 : ¬ ic = h2.nx := by omega
    simp [g9, g8', hv10, r9, lo9, a10.one, evIdx_rf hcn, hw, loc3, hne9, rc3]
    rw [show ∀ hh, wrA hh ic (some X) ((b.code.length - 1) * 8) 8 [.int .i64 x.op, .int .i64 x.to, sl x.args, sl x.more, .int .i64 x.con, .int .i64 x.num, .int .i64 x.fn, v10] = some (hh.set ic (.cells (splice X ((b.code.length - 1) * 8) (icell x v10)))) from fun hh => wrA_some ⟨rfl, hle8⟩]
    have hsp : splice X ((b.code.length - 1) * 8) (icell x v10) = (b.code.dropLast.map Enc.c).flatten ++ icell x v10 := by
      rw [splice, icell_len, List.drop_of_length_le (by omega), List.append_nil, ← hX, List.dropLast_eq_take]
      congr 1
      exact flat_take b.code (b.code.length - 1)
    rw [hsp]
    have hlY : ((b.code.dropLast.map Enc.c).flatten ++ icell x v10).length = b.code.length * 8 := by
      rw [List.length_append, flat_len', icell_len, List.length_dropLast, show Enc.z LInstr = 8 from rfl]; omega
    generalize hh4 : (h3.set h2.nx (.cells [.int .i64 x.op, .int .i64 x.to, sl x.args, sl x.more, .int .i64 x.con, .int .i64 x.num, .int .i64 x.fn, v10])).set ic (.cells ((b.code.dropLast.map Enc.c).flatten ++ icell x v10)) = h4
    simp only [Option.map_some, opH_some, WR_nil, WK_skip_abs, roundQ_nrm]
    have nx4 : h4.nx = h3.nx := by rw [← hh4]; rfl
    have lo4 : h4.lo = h3.lo := by rw [← hh4]; rfl
    have r4 : h4.row ic = some ((b.code.dropLast.map Enc.c).flatten ++ icell x v10) := by rw [← hh4]; simp
    have bk4 : ∀ i, i ≠ ic → i ≠ h2.nx → h4.blk i = h3.blk i := fun i q1 q2 => by rw [← hh4, blk_set, if_neg q1, blk_set, if_neg q2]
    have a104 : Acc h4 v10 1 ((x.jump.map (idxOf l)).map Enc.c).flatten x.jump.length := a10.of_nm (by omega) lo4 fun i hi _ => bk4 i (fun q => n10c (q ▸ hi)) fun q => n109 (q ▸ hi)
    refine ⟨fun i => i = ic ∨ nm v10 i, ⟨8, (b.code.dropLast.map Enc.c).flatten ++ icell x v10, ?_, ?_, fun z i o m e => ?_, ?_⟩, fun i hi => ?_, fun i hi hne => ?_⟩
    · rw [htl, src_rf, r4, rowSrc_some (by omega), List.drop_zero, List.take_of_length_le (by omega)]
    · rw [htl]; exact hlY
    · cases e; exact ⟨rfl, .inl rfl, by omega⟩
    · rw [htc, List.map_append, List.flatten_append]
      refine RepL.append (RepL.mk rfl fun q hq _ => ?_) ?_
      · obtain ⟨cs, z1, z2⟩ := List.mem_flatten.1 (List.getElem_mem hq)
        obtain ⟨y', _, rfl⟩ := List.mem_map.1 z1
        exact rs_LInstr (d := 1) y' _ z2
      · rw [hti]
        refine ⟨by simp, by simp, Rep.data (by simp) rs_int _, Rep.data (by simp) rs_int _, by simp, by simp, by simp, ?_, trivial⟩
        exact Acc.rep (α := Int) (d := 2) a104 (by simp) (fun i hi => .inr hi) rs_int
    · rcases hi with rfl | hi
      · exact ⟨hicn, by omega⟩
      · have := (a104.names hi).1
        obtain ⟨z, o, n, e⟩ := hi
        rcases m10.2 with q | q | ⟨_, _, _, _, q, hq⟩
        · rw [q] at e; cases e
        · rw [q] at e; cases e
        · rw [q] at e; cases e; simp at hq; exact ⟨by omega, by omega⟩
    · rw [bk4 i hne (by omega), m10.blk (by simp; omega) (by simp), blk_push, if_neg (by omega)]
  · have hj : Go.Proofs.Ytpdgjdnipkmocaa.next b = [] := by simpa using hc
    have hti : tidyI l x = x := by
      simp only [tidyI]
      cases q : isJ x
      · rfl
      · rw [hnx, if_pos ((isJ_iff x).1 q)] at hj
        simp only [if_true, hj, List.map_nil]
        cases x
        simp at hj
        rw [hj]
    simp
    have hcode : tidyC l b.code = b.code := by rw [htc, hti]; exact hdl.symm
    refine ⟨fun i => i = ic, ?_, fun i hi => by subst hi; exact ⟨hicn, by omega⟩, fun i hi hne e => absurd e (by omega)⟩
    rw [hcode]
    rw [← hX] at l8 rc
    exact Acc.rep (α := LInstr) (d := 3) (Acc.push _ (h := h2) ⟨l8, .inr ⟨ic, rfl, rc, hic, loc⟩⟩) rfl (fun i ⟨z, o, n, e⟩ => by cases e; rfl) rs_LInstr
  · obtain ⟨S8, rep8, hS8, bk4⟩ := hP
    have f5 : s4 5 = .pt i5 0 := (hs4 5 (by decide)).trans (by simp [e5])
    have f7 : s4 7 = .pt h'.nx 0 := (hs4 7 (by decide)).trans (by simp)
    have f8 : s4 8 = .rf 8 ic 0 b.code.length := (hs4 8 (by decide)).trans (by simp)
    have f6 : s4 6 = .int .i64 (k : Nat) := (hs4 6 (by decide)).trans (by simp [e6])
    have gn := hg4.le
    have gl := hg4.eq
    simp at gn gl
    have old : ∀ i, i < h'.nx → h4.blk i = h'.blk i := fun i hi => (bk4 i (by omega) (by omega)).trans (old2 i hi)
    have r5 : h4.row i5 = some (pcell p (sl p.params) (sl p.sig.params) (sl p.sig.result) bv) := by rw [← er5]; simp only [AH.row, old i5 t5]
    have r7' : h4.row h'.nx = some (Enc.c b) := by rw [← r7]; simp only [AH.row, bk4 h'.nx (by omega) (by omega)]
    have ab4 : Acc h4 bv 3 bs k := abv.of_nm (by omega) (by omega) fun i _ hi => old i hi
    simp [f5, f7, f8, r5, r7', pcell, -WR_app]
    refine WR_app_acc (m := 1) (ys := [sl b.regs, .str b.free, .rf 8 ic 0 b.code.length]) (by simpa using ab4) (by simp; exact src_psl rfl) (by rfl) (by omega) (room (by simp; omega)) (fun bv' h5 ab5 mv5 => ?_)
    simp at mv5
    have g5 := mv5.grow
    have r55 : h5.row i5 = some (pcell p (sl p.params) (sl p.sig.params) (sl p.sig.result) bv) := by rw [mv5.row (by omega) (fun z o n e => nb5 ⟨z, o, n, e⟩)]; exact r5
    have lo5 : h5.lo ≤ i5 := by omega
    have hk2 : k < 9223372036854775807 := by omega
    simp [f5, r55, pcell, lo5, ab5.one, f6, hk2]
    generalize hh6 : h5.set i5 (.cells [.str p.name, sl p.params, .int .i64 p.result, sl p.sig.params, .str p.sig.base, sl p.sig.result, .str p.sig.rest, bv', .bool p.extern]) = h6
    have nx6 : h6.nx = h5.nx := by rw [← hh6]; rfl
    have lo6 : h6.lo = h5.lo := by rw [← hh6]; rfl
    have bk6 : ∀ i, i < h4.nx → i ≠ i5 → ¬ nm bv i → h6.blk i = h4.blk i := fun i hi h4' hb => by
      rw [← hh6, blk_set, if_neg h4']
      exact mv5.blk hi fun z o n e => hb ⟨z, o, n, e⟩
    have old6 : ∀ i, i < h'.nx → i ≠ i5 → ¬ nm bv i → h6.blk i = h'.blk i := fun i hi a b => (bk6 i (by omega) a b).trans (old i hi)
    have bvn : ∀ i, nm bv i → i < h'.nx := fun i hi => (abv.names hi).1
    have bvn' : ∀ i, nm bv' i → nm bv i ∨ h4.nx ≤ i := fun i hi => by
      obtain ⟨z, o, n, e⟩ := hi
      rcases mv5.2 with q | q | ⟨_, _, _, _, q, hi⟩
      · exact .inl ⟨z, o, n, q ▸ e⟩
      · rw [q] at e; cases e
      · rw [q] at e; cases e; exact .inr hi
    refine next _ _ (by simp) ⟨?_, tj.ne, ⟨by omega, by omega⟩, by omega, bv', bs ++ [sl b.regs, .str b.free, .rf 8 ic 0 b.code.length], (fun i => (S' i ∧ i < h'.nx) ∨ S8 i), by rw [← hh6]; simp [pcell], ?_, ?_, ?_, ?_, ?_⟩
    · simp only [AH.row, old6 i2 t2 tj.ne nb2]; exact tj.r2
    · rw [← hh6]
      refine ab5.of_nm (Nat.le_refl _) rfl fun i hi _ => ?_
      rw [blk_set, if_neg]
      intro q
      subst q
      rcases bvn' _ hi with q | q
      · exact nb5 q
      · omega
    · have e1 : (((l.take (k + 1)).map fun a => tidyB l (blockAt p a)).map Enc.c).flatten = (((l.take k).map fun a => tidyB l (blockAt p a)).map Enc.c).flatten ++ Enc.c (tidyB l b) := by
        rw [take_succ' hk, List.map_append, List.map_append, List.flatten_append, ha]
        simp [hba]
      rw [e1]
      refine RepL.append (rbs.imp fun _ _ q => (q.below.agree (by omega) fun i hi hlt => old6 i hlt (sS i hi.1).1 (sS i hi.1).2.2).mono fun i hi => .inl hi) ⟨?_, by simp [tidyB], ?_, trivial⟩
      · exact Rep.data (by simp) rs_LReg _
      · exact (rep8.agree (by omega) fun i hi hlt => bk6 i (hS8 i hi).2 (by have := (hS8 i hi).1; omega) fun q => by have := bvn _ q; have := (hS8 i hi).1; omega).mono fun i hi => .inr hi
    · intro i hi
      rcases hi with hi | hi
      · refine ⟨(sS i hi.1).1, (sS i hi.1).2.1, fun q => ?_⟩
        rcases bvn' _ q with q | q
        · exact (sS i hi.1).2.2 q
        · omega
      · have := hS8 i hi
        refine ⟨by omega, by omega, fun q => ?_⟩
        rcases bvn' _ q with q | q
        · have := bvn _ q; omega
        · omega
    · exact fun q => by rcases bvn' _ q with q | q; exact nb5 q; omega
    · exact fun q => by rcases bvn' _ q with q | q; exact nb2 q; omega

theorem TidyR_p (p : LProc) (hp : FitP p) : Pure T 20 [.agg (Enc.c p)] (if laid p = true then .tup [.agg (Enc.c (tidyP p)), .bool true] else .tup [.agg (Enc.c zeroP), .bool false]) false := by
  refine ⟨c20, rfl, rfl, ?_⟩
  simp [c20, laidR_r p hp]
  refine condS_split (fun hc => ?_) (fun hc => ?_) <;> simp at hc
  · simp [hc, zeroP]
    exact ⟨rfl, rfl, rfl, rfl⟩
  have hN := order_nums p
  simp [preorderR_r p hp, hc]
  have tr0 : TR p (order p) 0 1 0 ((AH.zero.push (.cells zero9)).push (.cells (pcell p (sl p.params) (sl p.sig.params) (sl p.sig.result) .emp))) := by
    refine ⟨by simp, by simp, by simp, by simp, .emp, [], fun _ => False, by simp [pcell], Acc.emp, trivial, fun _ hi => hi.elim, ?_, ?_⟩
    · rintro ⟨_, _, _, e⟩; cases e
    · rintro ⟨_, _, _, e⟩; cases e
  refine WK_loop tgrow (fun k s' h' => s' 6 = .int .i64 (k : Nat) ∧ TR p (order p) 0 1 k h') (order p).length w20_0 (by decide) ⟨by simp, tr0⟩ ?_
  rintro k s' h' hk ⟨e6, tj⟩ hs hg
  have f1 : s' 1 = .pi (Enc.c p) := (hs 1 (by decide)).trans (by simp)
  have f2 : s' 2 = .pt 0 0 := (hs 2 (by decide)).trans (by simp)
  have f4 : s' 4 = sl (order p) := (hs 4 (by decide)).trans (by simp)
  have f5 : s' 5 = .pt 1 0 := (hs 5 (by decide)).trans (by simp)
  by_cases hkl : k < (order p).length
  · exact tidyR_round p hp (laid_true hc) (order p) hN 0 1 k hkl f1 f4 f5 e6 tj (fun s2 h2 g6 tj2 => ⟨hkl, g6, tj2⟩)
  · have hkn : k = (order p).length := by omega
    subst hkn
    obtain ⟨bv, bs, S', er5, abv, rbs, sS, nb5, nb2⟩ := tj.out
    rw [List.take_length] at rbs
    have lo0 := tj.lo
    simp [c20_0, e6, f4, f5, f2, er5, pcell, tj.r2, zero9, lo0]
    generalize hF : h'.set 0 (.cells [.str p.name, sl p.params, .int .i64 p.result, sl p.sig.params, .str p.sig.base, sl p.sig.result, .str p.sig.rest, bv, .bool p.extern]) = hf
    have nxf : hf.nx = h'.nx := by rw [← hF]; rfl
    have lof : hf.lo = h'.lo := by rw [← hF]; rfl
    have keep : ∀ i, i ≠ 0 → hf.blk i = h'.blk i := fun i hi => by rw [← hF, blk_set, if_neg hi]
    have hlen : (tidyP p).blocks.length = (order p).length := by simp [tidyP]
    have rbv : Rep (fun _ => True) hf 10 bv (sl (tidyP p).blocks) := by
      refine ⟨3, bs, ?_, abv.1.trans (by rw [hlen]), fun z i o m e => ?_, (rbs.imp fun _ _ q => ((q.agree (by omega) fun i hi _ => keep i (sS i hi).2.1).mono fun _ _ => trivial).deep (d' := 9) (by omega))⟩
      · rw [hlen]
        exact (abv.of_nm (by omega) lof fun i hi _ => keep i fun q => nb2 (q ▸ hi)).src
      · have := (abv.names ⟨z, o, m, e⟩).1
        obtain ⟨_, ⟨q, _⟩ | ⟨j, q, _, hj, _⟩⟩ := abv
        · rw [q] at e; cases e
        · rw [q] at e; cases e; exact ⟨rfl, trivial, by omega⟩
    simp [rbv.snap, tidyP]
end Go.Proofs.Ytpdgjdnipkmocaa

/- The reference's 'once': the first two blocks that may be joined, joined. -/
import Derived.Test.YtpdgjdnipkmocaaJ4
set_option linter.unusedVariables false
set_option linter.unusedSimpArgs false
namespace Go.Proofs.Ytpdgjdnipkmocaa
open Go.Ev

noncomputable def onceV (p : LProc) : PV := match jointS p with
  | some a => .tup [.agg (Enc.c (mrg p a)), .bool true]
  | none => .tup [.agg (Enc.c p), .bool false]

theorem once_p (p : LProc) (hj : JFit p) : Pure T 48 [.agg (Enc.c p)] (onceV p) false := by
  refine ⟨c48, rfl, rfl, ?_⟩
  have hp := hj.fit.1
  have hl := hj.la
  have hlp := laid_true hl
  have hN := order_nums p
  have hol := hN.length
  have hp1 := hp.1
  simp [c48, preorderR_r p hp, hl]
  refine WK_loop tgrow (fun k s' h' => s' 5 = .int .i64 (k : Nat) ∧ (jointS p = ((order p).drop k).find? (jointAt p) ∧ h'.row 0 = some zero9 ∧ 0 < h'.nx ∧ h'.lo = 0)) (order p).length w48_0 (by decide) ⟨by simp, by simp [jointS, zero9]⟩ ?_
  rintro k s' h' hk ⟨e5, jf, z0, z1, z2⟩ hs hg
  have f1 : s' 1 = .pi (Enc.c p) := (hs 1 (by decide)).trans (by simp)
  have f2 : s' 2 = .pt 0 0 := (hs 2 (by decide)).trans (by simp)
  have f4 : s' 4 = sl (order p) := (hs 4 (by decide)).trans (by simp)
  simp [c48_0, e5, f4]
  refine condS_split (fun hkl => ?_) (fun hkl => ?_) <;> simp at hkl
  case refine_2 =>
    have hkn : k = (order p).length := by omega
    subst hkn
    rw [List.drop_length] at jf
    have jf' : jointS p = none := jf
    have ne0 : h'.lo ≤ 0 := by omega
    simp [f1, f2, z0, zero9, ne0, onceV, jf']
  obtain ⟨a0, a1⟩ := hN.2 _ (List.getElem_mem hkl)
  have hma := List.getElem_mem hkl
  rw [List.drop_eq_getElem_cons hkl] at jf
  generalize ha : (order p)[k] = a at *
  have hb : a.toNat < p.blocks.length := by omega
  have hbm := List.getElem_mem hb
  have hba : blockAt p a = p.blocks[a.toNat] := by simp [blockAt, hb]
  generalize hbb : p.blocks[a.toNat] = b at hbm hba
  have fb := hp.2 b hbm
  obtain ⟨x, hxl, _, hlo, hjo⟩ := hlp.2 b hbm
  have hbl : 0 < b.code.length := by
    cases hc : b.code with
    | nil => rw [hc] at hxl; cases hxl
    | cons _ _ => simp
  have hcn : b.code.length - 1 < b.code.length := by omega
  have hx : b.code[b.code.length - 1] = x := by
    have := getLast_eq hbl
    rw [hxl] at this
    exact (Option.some.inj this).symm
  have hw : IntKind.i64.wrap ((b.code.length : Int) - 1) = ((b.code.length - 1 : Nat) : Int) := by rw [w64 (by have := fb.1; omega)]; omega
  have hsu : succ p a = Go.Proofs.Ytpdgjdnipkmocaa.next b := by simp [succ, hb, hbb]
  have hnx : Go.Proofs.Ytpdgjdnipkmocaa.next b = if x.op = 8 ∨ x.op = 9 ∨ x.op = 11 then x.jump else [] := by simp only [Go.Proofs.Ytpdgjdnipkmocaa.next, hxl]
  have not : jointAt p a = false → jointS p = ((order p).drop (k + 1)).find? (jointAt p) := fun q => by
    rw [jf, List.find?_cons, q]
  have hJ : jointAt p a = decide ((Go.Proofs.Ytpdgjdnipkmocaa.next b).length = 1 ∧ x.op = 8 ∧ jb p a ≠ a ∧ jb p a ≠ 0 ∧ cntB p (jb p a) ≤ 1) := by
    unfold jointAt
    rw [hsu, hba, hxl]
    simp
  have hk2 : k < 9223372036854775807 := by omega
  have lo' : h'.lo ≤ h'.nx := by omega
  have ne0 : ¬ 0 = h'.nx := by omega
  simp [e5, f1, f4, evIdx_nat, rd1_ptr, hkl, ha, evIdx_sl, a0, hb, rds_ptr, hbb, hw, hcn, hx, lo']
  by_cases c2 : x.op = 8
  case neg =>
    simp [c2, e5, hk2, hkl, z0, z1, z2, ne0]
    exact not (by rw [hJ]; simp [c2])
  have hnj : Go.Proofs.Ytpdgjdnipkmocaa.next b = x.jump := by rw [hnx, if_pos (.inl c2)]
  by_cases c1 : x.jump.length = 1
  case neg =>
    have c1' : ¬ (x.jump.length : Int) = 1 := by omega
    simp [c2, c1', e5, hk2, hkl, z0, z1, z2, ne0]
    exact not (by rw [hJ, hnj]; simp [c1])
  obtain ⟨y, hy⟩ := List.length_eq_one_iff.1 c1
  have hjb : jb p a = y := by simp [jb, hsu, hnj, hy]
  have e0 : evIdx 1 (sl [y]) 0 = some (ptr [y] 0 0) := evIdx_nat (l := [y]) (k := 0) rfl (by simp)
  simp [c2, hy, e0, rd1_ptr, f4, e5, evIdx_nat, hkl, ha]
  by_cases c3 : y = a
  · simp [c3, e5, hk2, hkl, z0, z1, z2, ne0]
    exact not (by rw [hJ, hjb]; simp [c3])
  by_cases c4 : y = 0
  · subst c4
    simp [c3, e5, hk2, hkl, z0, z1, z2, ne0]
    exact not (by rw [hJ, hjb]; simp)
  simp [c3, c4, f1, count_r p hp hl y]
  have hcp : 0 < cntB p y := by
    unfold cntB
    exact List.count_pos_iff.2 (List.mem_flatMap.2 ⟨a, hma, by rw [hsu, hnj, hy]; simp⟩)
  by_cases c5 : cntB p y = 1
  case neg =>
    have c5' : ¬ ((cntB p y : Nat) : Int) = 1 := by omega
    simp [c5', e5, hk2, hkl, z0, z1, z2, ne0]
    exact not (by rw [hJ, hjb, decide_eq_false_iff_not]; rintro ⟨_, _, _, _, q⟩; omega)
  have hyes : jointS p = some a := by
    rw [jf, List.find?_cons]
    have : jointAt p a = true := by
      rw [hJ, hjb, decide_eq_true_eq, hnj]
      exact ⟨c1, c2, c3, c4, by omega⟩
    rw [this]
  have jn := jn_of hyes
  rw [hjb] at jn
  obtain ⟨y0, y1⟩ := jn.bb
  have hyb : y.toNat < p.blocks.length := by omega
  have hybm := List.getElem_mem hyb
  have hyba : blockAt p y = p.blocks[y.toNat] := by simp [blockAt, hyb]
  generalize hB : p.blocks[y.toNat] = B at hybm hyba
  have fB := hp.2 B hybm
  have hdl : b.code.take (b.code.length - 1) = b.code.dropLast := (List.dropLast_eq_take).symm
  have c5' : ((cntB p y : Nat) : Int) = 1 := by omega
  simp [c5', f1, hw, evSlice_sl_hi (show 8 = Enc.z LInstr from rfl) (show b.code.length - 1 ≤ b.code.length by omega), hdl, -WR_app]
  have hdn : b.code.dropLast.length = b.code.length - 1 := List.length_dropLast
  have fb1 := fb.1
  have fB1 := fB.1
  refine WR_app_acc (cs := []) (n := 0) (m := b.code.dropLast.length) (ys := (b.code.dropLast.map Enc.c).flatten) (by simp; exact Acc.emp) (show src _ 8 (sl b.code.dropLast) = _ from src_psl (flat_len' _)) (flat_len' _) (by simp; omega) (room (by omega)) (fun v1 h2 a1 m1 => ?_)
  simp only [List.nil_append, Nat.zero_add] at a1
  simp at m1
  have g1 := m1.grow
  simp at g1
  have r0 : h2.row 0 = some zero9 := by rw [m1.row (by simp) (by simp)]; simp [ne0, z0]
  simp [f1, evIdx_sl, y0, hyb, rd1_ptr, rds_ptr, hB, -WR_app]
  refine WR_app_acc (m := B.code.length) (ys := (B.code.map Enc.c).flatten) (by simp; exact a1) (show src _ 8 (sl B.code) = _ from src_psl (flat_len' _)) (flat_len' _) (by omega) (room (by omega)) (fun v2 h3 a2 m2 => ?_)
  simp at m2
  have g2 := m2.grow
  have v1n : ∀ i, nm v1 i → h'.nx < i := fun i ⟨z, o, n, e⟩ => by
    rcases m1.2 with q | q | ⟨_, _, _, _, q, hi⟩
    · rw [q] at e; cases e
    · rw [q] at e; cases e
    · rw [q] at e; cases e; simp at hi; omega
  have v2n : ∀ i, nm v2 i → h'.nx < i := fun i ⟨z, o, n, e⟩ => by
    rcases m2.2 with q | q | ⟨_, _, _, _, q, hi⟩
    · exact v1n i ⟨z, o, n, q ▸ e⟩
    · rw [q] at e; cases e
    · rw [q] at e; cases e; omega
  have r03 : h3.row 0 = some zero9 := by rw [m2.row (by omega) (fun z o n e => by have := v1n 0 ⟨z, o, n, e⟩; omega)]; exact r0
  have lo3 : h3.lo ≤ h3.nx := by omega
  simp [f1, lo3, -WR_app]
  refine WR_app_acc (cs := []) (n := 0) (m := p.blocks.length) (ys := (p.blocks.map Enc.c).flatten) (by simp; exact Acc.emp) (show src _ 3 (sl p.blocks) = _ from src_psl (flat_len' _)) (flat_len' _) (by simp; omega) (room (by omega)) (fun bv h4 a4 m4 => ?_)
  simp only [List.nil_append, Nat.zero_add] at a4
  simp at m4
  have g4 := m4.grow
  simp at g4
  obtain ⟨l4, ⟨_, c0⟩ | ⟨ib, rfl, rb, hib, lob⟩⟩ := a4
  · omega
  have ibn : h3.nx < ib := by
    rcases m4.2 with q | q | ⟨_, _, _, _, q, hi⟩
    · cases q
    · cases q
    · cases q; simp at hi; omega
  have r10 : h4.row h3.nx = some (pcell p (sl p.params) (sl p.sig.params) (sl p.sig.result) .emp) := by rw [m4.row (by simp) (by simp)]; simp [pcell]
  have r04 : h4.row 0 = some zero9 := by rw [m4.row (by simp) (by simp)]; simp; rw [if_neg (by omega)]; exact r03
  have lo4 : h4.lo = 0 := by omega
  have hle3 : a.toNat * 3 + 3 ≤ ((p.blocks.map Enc.c).flatten).length := by rw [l4]; omega
  have a24 : Acc h4 v2 8 ((b.code.dropLast.map Enc.c).flatten ++ (B.code.map Enc.c).flatten) (b.code.dropLast.length + B.code.length) := a2.of_nm (by omega) (by omega) fun i hi hlt => by rw [m4.blk (by simp; omega) (by simp), blk_push, if_neg (by omega)]
  have n1 : ¬ 0 = h3.nx := by omega
  have n2 : ¬ ib = h3.nx := by omega
  have n3 : ¬ 0 = ib := by omega
  have n4 : ¬ h3.nx = ib := by omega
  generalize hX : (p.blocks.map Enc.c).flatten = X at *
  simp [r10, pcell, lo4, f4, f1, e5, evIdx_nat, hkl, ha, rd1_ptr, evIdx_sl, a0, hb, hbb, n1, n2, n3, n4, a2.one, evIdx_rfi a0 hb, rb, r04, zero9]
  rw [show ∀ hh, wrA hh ib (some X) (a.toNat * 3) 3 [sl b.regs, .str b.free, v2] = some (hh.set ib (.cells (splice X (a.toNat * 3) [sl b.regs, .str b.free, v2]))) from fun hh => wrA_some ⟨rfl, hle3⟩]
  generalize hh5 : (h4.set h3.nx (.cells [.str p.name, sl p.params, .int .i64 p.result, sl p.sig.params, .str p.sig.base, sl p.sig.result, .str p.sig.rest, .rf 3 ib 0 p.blocks.length, .bool p.extern])).set ib (.cells (splice X (a.toNat * 3) [sl b.regs, .str b.free, v2])) = h5
  have nx5 : h5.nx = h4.nx := by rw [← hh5]; rfl
  have lo5 : h5.lo = 0 := by rw [← hh5]; exact lo4
  have r105 : h5.row h3.nx = some (pcell p (sl p.params) (sl p.sig.params) (sl p.sig.result) (.rf 3 ib 0 p.blocks.length)) := by rw [← hh5]; simp [pcell, n4]
  have r05 : h5.row 0 = some zero9 := by rw [← hh5]; simp [n1, n3, r04]
  have rb5 : h5.row ib = some (splice X (a.toNat * 3) [sl b.regs, .str b.free, v2]) := by rw [← hh5]; simp
  have bk5 : ∀ i, i ≠ h3.nx → i ≠ ib → h5.blk i = h4.blk i := fun i q1 q2 => by rw [← hh5, blk_set, if_neg q2, blk_set, if_neg q1]
  have hmb : mrgB p a = ⟨b.regs, b.free, b.code.dropLast ++ B.code⟩ := by simp [mrgB, hjb, hba, hyba]
  have hset : (mrg p a).blocks = p.blocks.set a.toNat (mrgB p a) := rfl
  have hml : (mrg p a).blocks.length = p.blocks.length := mrg_len
  have hsl : (splice X (a.toNat * 3) [sl b.regs, .str b.free, v2]).length = p.blocks.length * 3 := by
    simp only [splice, List.length_append, List.length_take, List.length_drop, List.length_cons, List.length_nil]; omega
  have rbv : ∀ C : List PV, Rep (fun _ => True) (h5.set 0 (.cells C)) 10 (.rf 3 ib 0 p.blocks.length) (sl (mrg p a).blocks) := fun C => by
    have a25 : Acc (h5.set 0 (.cells C)) v2 8 ((b.code.dropLast ++ B.code).map Enc.c).flatten (b.code.dropLast ++ B.code).length := by
      rw [List.map_append, List.flatten_append, List.length_append]
      refine a24.of_nm (by rw [← nx5]; exact Nat.le_refl _) (by rw [lo4, ← lo5]; rfl) fun i hi hlt => ?_
      have h1 := (a2.names hi).1
      have h2 := v2n i hi
      rw [blk_set, if_neg (by omega), bk5 i (by omega) (by omega)]
    refine ⟨3, splice X (a.toNat * 3) [sl b.regs, .str b.free, v2], ?_, by rw [hml]; exact hsl, fun z i o m e => ?_, ?_⟩
    · rw [hml, src_rf, row_set, if_neg (by omega), rb5, rowSrc_some (by omega), List.drop_zero, List.take_of_length_le (by omega)]
    · cases e; exact ⟨rfl, trivial, by show ib < h5.nx; omega⟩
    · rw [hset, ← flat_set p.blocks a.toNat hb (mrgB p a), hX]
      refine RepL.splice _ (RepL.mk rfl fun q hq _ => ?_) ?_
      · rw [← hX] at hq
        obtain ⟨cs, w1, w2⟩ := List.mem_flatten.1 (List.getElem_mem hq)
        obtain ⟨y', _, rfl⟩ := List.mem_map.1 w1
        have := rs_LBlock (S := fun _ => True) (h := h5.set 0 (.cells C)) (d := 6) y' _ w2
        simpa only [hX] using this
      · rw [hmb]
        exact ⟨Rep.data (by simp) rs_LReg _, by simp, Acc.rep (α := LInstr) (d := 8) a25 rfl (fun _ _ => trivial) rs_LInstr, trivial⟩
  have hC : ∀ C : List PV, snap (h5.set 0 (.cells C)) 10 (.rf 3 ib 0 p.blocks.length) = some (sl (mrg p a).blocks) := fun C => (rbv C).snap
  have ho : onceV p = .tup [.agg (Enc.c (mrg p a)), .bool true] := by simp only [onceV, hyes]
  rw [ho]
  simp [f2, r105, r05, pcell, zero9, lo5, hC]
  exact ⟨rfl, rfl, rfl, rfl, rfl, rfl, rfl, rfl⟩
theorem once_r (p : LProc) (hj : JFit p) {h : AH} {d : Option Nat} {r : List COper} {κ : List KF} {s : Fr} {Q : Fr → AH → Prop} : pureK T 48 (some [.agg [PV.str p.name, sl p.params, PV.int .i64 p.result, sl p.sig.params, PV.str p.sig.base, sl p.sig.result, PV.str p.sig.rest, sl p.blocks, PV.bool p.extern]]) false h d r κ s Q = WR T r κ (Fr.put s d (onceV p)) h Q := pureK_eq (once_p p hj) (.inr rfl)
end Go.Proofs.Ytpdgjdnipkmocaa

/- The program's 'Join': its own copy of the blocks. -/
import Derived.Test.YtpdgjdnipkmocaaJ7
set_option linter.unusedVariables false
set_option linter.unusedSimpArgs false
namespace Go.Proofs.Ytpdgjdnipkmocaa
open Go.Ev

/-- The memory of the program's 'Join' before round k of its first loop. -/
structure J0 (p : LProc) (i5 k : Nat) (h : AH) : Prop where
  r0 : h.row 0 = some zero9
  lo : h.lo = 0
  lt : 0 < i5 ∧ i5 < h.nx
  out : ∃ w bv cells ic, ∃ S : Nat → Prop, h.row i5 = some (pcell p (sl p.params) w (sl p.sig.result) bv) ∧ Acc h bv 3 cells k ∧ JB h (p.blocks.take k) cells ic S ∧ Rep S h 5 w (sl p.sig.params) ∧
    (∀ i, JS (p.blocks.take k) ic S i → i < h.nx ∧ i ≠ i5 ∧ i ≠ 0 ∧ ¬ nm bv i) ∧ ¬ nm bv i5 ∧ ¬ nm bv 0

theorem join_copy (p : LProc) (hp : Fit p) (hl : laidP p) (i5 : Nat) {κ : List KF} {s : Fr} {h : AH} {Q : Fr → AH → Prop} (e5 : s 5 = .pt i5 0) (e20 : s 20 = sl p.blocks) (e21 : s 21 = .int .i64 (p.blocks.length : Int)) (e22 : s 22 = .int .i64 0) (j0 : J0 p i5 0 h)
    (next : ∀ s' h', (∀ t, t ∉ w22_0 → s' t = s t) → J0 p i5 p.blocks.length h' → WK T .skip κ s' h' Q) : WK T (.loop c22_0) (.block 0 :: κ) s h Q := by
  have hp1 := hp.1.1
  refine WK_range tgrow (fun (k : Nat) (_ : Fr) (h' : AH) => J0 p i5 k h') p.blocks.length w22_0 rfl (by decide) e22 e21 (by omega) (by decide) (fun _ _ _ _ j _ => j) j0 ?_ ?_
  · rintro k s' h' hk mj hi hs hg
    have f5 : s' 5 = .pt i5 0 := (hs 5 (by decide)).trans e5
    have f20 : s' 20 = sl p.blocks := (hs 20 (by decide)).trans e20
    have hbm := List.getElem_mem hk
    have htk := take_succ' hk
    generalize hbb : p.blocks[k] = b at hbm htk
    have fb := hp.1.2 b hbm
    have hpot := hp.2.2 b hbm
    obtain ⟨x, hxl, _⟩ := hl.2 b hbm
    have hbl : 0 < b.code.length := by
      cases hc : b.code with
      | nil => rw [hc] at hxl; cases hxl
      | cons _ _ => simp
    obtain ⟨w, bv, cells, ic, S, r5, abv, jb, rw0, sS, nb5, nb0⟩ := mj.out
    obtain ⟨i0, i5lt⟩ := mj.lt
    have lo0 := mj.lo
    have z0 := mj.r0
    have hlo0 : h'.lo ≤ h'.nx := by omega
    have nn : ¬ i5 = h'.nx := by omega
    simp [hi, f5, f20, evIdx_nat, rds_ptr, hk, hbb, hlo0, r5, nn, pcell]
    refine block_c b fb hpot (S := fun _ => False) (m := 4) (by decide) (Rep.data (by simp) rs_LReg _) (Rep.data (by simp) rs_LInstr _) (by rfl) (by rfl) (by simp; omega) (fun rv cv js h1 arv nrv crv arc ajr k1 => ?_)
    obtain ⟨lcv, ⟨_, c0⟩ | ⟨ic1, rfl, rc, hic, loc⟩⟩ := crv.acc
    · omega
    have kn := k1.1
    have kl := k1.2.1
    simp at kn kl
    have old1 : ∀ i, i < h'.nx → h1.blk i = h'.blk i := fun i hi => by rw [k1.2.2 i (by simp; omega), blk_push, if_neg (by omega)]
    have hicn : h'.nx < ic1 := by have := crv.new.1 _ _ _ _ rfl; simp at this; omega
    have rvn : ∀ i, nm rv i → h'.nx < i := fun i ⟨z, o, n, e⟩ => by have := nrv z i o n e; simp at this; omega
    have jsn : ∀ q (hq : q < js.length) i, nm js[q] i → h'.nx < i := fun q hq i ⟨z, o, n, e⟩ => by have := crv.new.2 q hq z i o n e; simp at this; omega
    have ab4 : Acc h1 bv 3 cells k := abv.of_nm (by omega) (by omega) fun i _ hi => old1 i hi
    have r51 : h1.row i5 = some (pcell p (sl p.params) w (sl p.sig.result) bv) := by simp only [AH.row, old1 i5 i5lt]; exact r5
    simp [-WR_app]
    refine WR_app_acc (m := 1) (ys := [rv, .str b.free, .rf 8 ic1 0 b.code.length]) (by simp; exact ab4) (by simp; exact src_psl rfl) (by rfl) (by omega) (room (by omega)) (fun bv' h5 ab5 mv5 => ?_)
    simp at mv5
    have g5 := mv5.grow
    have r55 : h5.row i5 = some (pcell p (sl p.params) w (sl p.sig.result) bv) := by rw [mv5.row (by omega) (fun z o n e => nb5 ⟨z, o, n, e⟩)]; exact r51
    have lo5 : h5.lo ≤ i5 := by omega
    simp [f5, r55, pcell, lo5, ab5.one, hi]
    generalize hh6 : h5.set i5 (.cells [.str p.name, sl p.params, .int .i64 p.result, w, .str p.sig.base, sl p.sig.result, .str p.sig.rest, bv', .bool p.extern]) = h6
    have nx6 : h6.nx = h5.nx := by rw [← hh6]; rfl
    have lo6 : h6.lo = h5.lo := by rw [← hh6]; rfl
    have bk6 : ∀ i, i < h1.nx → i ≠ i5 → ¬ nm bv i → h6.blk i = h1.blk i := fun i hi h4' hb => by
      rw [← hh6, blk_set, if_neg h4']
      exact mv5.blk hi fun z o n e => hb ⟨z, o, n, e⟩
    have old6 : ∀ i, i < h'.nx → i ≠ i5 → ¬ nm bv i → h6.blk i = h'.blk i := fun i hi a b => (bk6 i (by omega) a b).trans (old1 i hi)
    have bvn : ∀ i, nm bv i → i < h'.nx := fun i hi => (abv.names hi).1
    have bvn' : ∀ i, nm bv' i → nm bv i ∨ h1.nx ≤ i := fun i hi => by
      obtain ⟨z, o, n, e⟩ := hi
      rcases mv5.2 with q | q | ⟨_, _, _, _, q, hi⟩
      · exact .inl ⟨z, o, n, q ▸ e⟩
      · rw [q] at e; cases e
      · rw [q] at e; cases e; exact .inr hi
    have new6 : ∀ i, h'.nx < i → i < h1.nx → h6.blk i = h1.blk i := fun i q1 q2 => bk6 i q2 (by omega) fun q => by have := bvn i q; omega
    have rvlt : ∀ i, nm rv i → i < h1.nx := fun i hi => (arv.names hi).1
    have jslt : ∀ q (hq : q < js.length) i, nm js[q] i → i < h1.nx := fun q hq i hi => ((crv.jump q (by rw [← crv.len]; exact hq) hq).names hi).1
    have klen : (p.blocks.take k).length = k := by rw [List.length_take]; omega
    have jb6 : JB h6 (p.blocks.take k) cells ic S := jb.agree (by omega) fun i hi _ => by
      obtain ⟨a1, a2, a3, a4⟩ := sS i hi
      exact old6 i a1 a2 a4
    have arv6 : Acc h6 rv 4 (b.regs.map Enc.c).flatten b.regs.length := arv.of_nm (by omega) (by omega) fun i hi hlt => new6 i (rvn i hi) hlt
    have S2 : ∀ i, (S i ∨ nm rv i ∨ ∃ q, ∃ hq : q < js.length, nm js[q] i) → i < h1.nx ∧ i ≠ i5 ∧ i ≠ 0 ∧ ¬ nm bv i ∧ i ≠ ic1 := fun i hi => by
      rcases hi with hi | hi | ⟨q, hq, hi⟩
      · obtain ⟨a1, a2, a3, a4⟩ := sS i (.inl hi)
        exact ⟨by omega, a2, a3, a4, by omega⟩
      · have u1 := rvn i hi
        have u2 := rvlt i hi
        exact ⟨u2, by omega, by omega, fun q => by have := bvn i q; omega, fun e => arc.clash hi ⟨_, _, _, by rw [e]⟩⟩
      · have u1 := jsn q hq i hi
        have u2 := jslt q hq i hi
        exact ⟨u2, by omega, by omega, fun q => by have := bvn i q; omega, fun e => (crv.apart q hq).clash hi ⟨_, _, _, by rw [e]⟩⟩
    have sn := jb6.snoc b (rv := rv) (i := ic1) (cc := (List.zipWith icell b.code js).flatten) (S' := fun i => S i ∨ nm rv i ∨ ∃ q, ∃ hq : q < js.length, nm js[q] i) (fun i q => .inl q)
      (Acc.rep (α := LReg) (d := 3) arv6 rfl (fun i q => .inr (.inl q)) rs_LReg)
      (by rw [← rc]; simp only [AH.row, new6 ic1 hicn hic]) (zip_len _ _ crv.len)
      (zip_rep (d := 1) b.code js crv.len fun q hq hq' => Acc.rep (α := Int) (d := 2) ((crv.jump q hq hq').of_nm (by omega) (by omega) fun i hi hlt => new6 i (jsn q hq' i hi) hlt) rfl (fun i hi => .inr (.inr ⟨q, hq', hi⟩)) rs_int)
      (by omega) (fun q => (S2 ic1 q).2.2.2.2 rfl) (fun c hc => by
        have u := (sS (ic c) (.inr ⟨c, hc, rfl⟩)).1
        refine ⟨by omega, fun q => ?_⟩
        rcases q with q | q | ⟨q, hq, hi⟩
        · exact (jb.out c hc).1 q
        · have := rvn _ q; omega
        · have := jsn q hq _ hi; omega)
    rw [← htk] at sn
    refine ⟨?_, by omega, ⟨i0, by omega⟩, w, bv', _, _, _, by rw [← hh6]; simp [pcell], ?_, sn, ?_, ?_, ?_, ?_⟩
    · rw [← z0]; simp only [AH.row, old6 0 (by omega) (by omega) nb0]
    · refine ab5.of_nm (by omega) lo6 fun i hi _ => ?_
      rw [← hh6, blk_set, if_neg]
      intro q
      subst q
      rcases bvn' _ hi with q | q
      · exact nb5 q
      · omega
    · exact (rw0.agree (by omega) fun i hi _ => by
        obtain ⟨a1, a2, a3, a4⟩ := sS i (.inl hi)
        exact old6 i a1 a2 a4).mono fun i q => .inl q
    · have hb' : ∀ i, i < h1.nx → ¬ nm bv i → ¬ nm bv' i := fun i q1 q2 q => by
        rcases bvn' i q with q | q
        · exact q2 q
        · omega
      rintro i (hi | ⟨c, hc, e⟩)
      · obtain ⟨a1, a2, a3, a4, _⟩ := S2 i hi
        exact ⟨by omega, a2, a3, hb' i a1 a4⟩
      · have e : i = if c = (p.blocks.take k).length then ic1 else ic c := e
        by_cases hck : c = (p.blocks.take k).length
        · rw [if_pos hck] at e
          subst e
          exact ⟨by omega, by omega, by omega, hb' _ hic fun q => by have := bvn _ q; omega⟩
        · rw [if_neg hck] at e
          rw [List.length_take] at hc
          obtain ⟨a1, a2, a3, a4⟩ := sS (ic c) (.inr ⟨c, by omega, rfl⟩)
          subst e
          exact ⟨by omega, a2, a3, hb' _ (by omega) a4⟩
    · exact fun q => by rcases bvn' _ q with q | q; exact nb5 q; omega
    · exact fun q => by rcases bvn' _ q with q | q; exact nb0 q; omega
  · intro s' h' mj hs hg
    exact next s' h' hs mj
end Go.Proofs.Ytpdgjdnipkmocaa

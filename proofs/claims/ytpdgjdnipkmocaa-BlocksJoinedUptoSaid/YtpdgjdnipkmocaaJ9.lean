/- The program's 'Join': the steps. -/
import Derived.Test.YtpdgjdnipkmocaaJ8
set_option linter.unusedVariables false
set_option linter.unusedSimpArgs false
namespace Go.Proofs.Ytpdgjdnipkmocaa
open Go.Ev

section
variable {h : AH} {d : Option Nat} {r : List COper} {κ : List KF} {s : Fr} {Q : Fr → AH → Prop} {S : Nat → Prop}
theorem tidyE_c (p : LProc) {m0 : Nat} {v1 v3 v5 v7 : PV} (hm0 : m0 + 5 ≤ 11) (r1 : Rep S h (m0 + 5) v1 (sl p.params)) (r3 : Rep S h (m0 + 5) v3 (sl p.sig.params)) (r5 : Rep S h (m0 + 5) v5 (sl p.sig.result)) (r7 : Rep S h (m0 + 5) v7 (sl p.blocks))
    (hp : Fit p) (hl : laid p = true) (hlw : h.lo ≤ h.nx)
    (next : ∀ cs h', RepL (Rep (fun i => h.nx ≤ i) h' 11) cs (Enc.c (tidyP p)) → Kept h h' → WR T r κ (Fr.put s d (.agg cs)) h' Q) :
    callK T 100041 [.agg (pcell p v1 v3 v5 v7)] h d r κ s Q := by
  refine callK_bar tok (c := c100041) rfl rfl rfl hlw ?_
  have hb1 : Blw h h.bar := .bar h
  refine tidy_w p (m0 := m0) (by simp; omega) (r1.blw hb1) (r3.blw hb1) (r5.blw hb1) (r7.blw hb1) hp.1 hp.2.1 hp.2.2 hl (by simp) (fun s' h' v e1 e2 => ?_)
  intro lo1 k1
  refine ⟨v, e1, ?_⟩
  obtain ⟨cs, rfl, rcs⟩ := e2
  refine next cs _ (rcs.imp fun _ _ q => (q.agree (by simp) fun i hi _ => ?_).mono fun _ q => q) k1
  simp only [blk_unbar]
end

/-- What the procedure's own parts stand for. -/
theorem J0.blocks {q : LProc} {i5 : Nat} {h : AH} (m : J0 q i5 q.blocks.length h) : ∃ w bv, h.row i5 = some (pcell q (sl q.params) w (sl q.sig.result) bv) ∧ Rep (fun _ => True) h 5 w (sl q.sig.params) ∧ Rep (fun _ => True) h 5 bv (sl q.blocks) := by
  obtain ⟨w, bv, cells, ic, S, r5, abv, jb, rw0, sS, nb5, nb0⟩ := m.out
  rw [List.take_length] at jb sS
  refine ⟨w, bv, r5, rw0.mono fun _ _ => trivial, 3, cells, abv.src, abv.1, fun z i o n e => ?_, jb.rep.imp fun _ _ q => q.mono fun _ _ => trivial⟩
  have := (abv.names ⟨z, o, n, e⟩).1
  obtain ⟨_, ⟨q, _⟩ | ⟨j, q, _, hj, _⟩⟩ := abv
  · rw [q] at e; cases e
  · rw [q] at e; cases e; exact ⟨rfl, trivial, this⟩

/-- A step of Join in the memory. -/
theorem J0.step {q : LProc} {i5 : Nat} {h : AH} (m : J0 q i5 q.blocks.length h) {a b : Int} (j : Jn q a b) : ∃ ib w cells, ∃ ic : Nat → Nat, ∃ cca ccb : List PV,
    h.row i5 = some (pcell q (sl q.params) w (sl q.sig.result) (.rf 3 ib 0 q.blocks.length)) ∧ h.row ib = some cells ∧ h.lo = 0 ∧ i5 ≠ ib ∧
    cells[a.toNat * 3 + 2]? = some (.rf 8 (ic a.toNat) 0 (blockAt q a).code.length) ∧ cells[b.toNat * 3 + 2]? = some (.rf 8 (ic b.toNat) 0 (blockAt q b).code.length) ∧ cells.length = q.blocks.length * 3 ∧
    h.row (ic a.toNat) = some cca ∧ h.row (ic b.toNat) = some ccb ∧ cca.length = (blockAt q a).code.length * 8 ∧ ccb.length = (blockAt q b).code.length * 8 ∧
    ic a.toNat ≠ ib ∧ ic a.toNat ≠ i5 ∧ ic a.toNat < h.nx ∧ ib < h.nx ∧ i5 < h.nx ∧
    J0 (mrg q a) i5 (mrg q a).blocks.length (((h.del (ic a.toNat)).push (.cells (cca.take (((blockAt q a).code.length - 1) * 8) ++ ccb))).set ib (.cells (cells.set (a.toNat * 3 + 2) (.rf 8 h.nx 0 ((blockAt q a).code.length - 1 + (blockAt q b).code.length))))) := by
  obtain ⟨w, bv, cells, ic, S, r5, abv, jb, rw0, sS, nb5, nb0⟩ := m.out
  rw [List.take_length] at jb sS
  obtain ⟨i0, i5lt⟩ := m.lt
  have ha := j.ba
  have hb := j.bb
  have han : a.toNat < q.blocks.length := by omega
  have hbn : b.toNat < q.blocks.length := by omega
  obtain ⟨lc, ⟨_, c0⟩ | ⟨ib, rfl, rb, hib, lob⟩⟩ := abv
  · omega
  have hba : q.blocks[a.toNat] = blockAt q a := by simp [blockAt, han]
  have hbb : q.blocks[b.toNat] = blockAt q b := by simp [blockAt, hbn]
  obtain ⟨cca, ra, la, ea⟩ := jb.row _ han
  obtain ⟨ccb, rbb, lb, eb⟩ := jb.row _ hbn
  have ca := jb.cod _ han
  have cb := jb.cod _ hbn
  rw [hba] at la ea ca
  rw [hbb] at lb eb cb
  have sa := sS (ic a.toNat) (.inr ⟨_, han, rfl⟩)
  have sb := sS (ic b.toNat) (.inr ⟨_, hbn, rfl⟩)
  have nmb : ∀ i, ¬ nm (PV.rf 3 ib 0 q.blocks.length) i → i ≠ ib := fun i h e => by subst e; exact h ⟨_, _, _, rfl⟩
  have hn5 : i5 ≠ ib := nmb i5 nb5
  have hn0 : 0 ≠ ib := nmb 0 nb0
  have hna := nmb _ sa.2.2.2
  have hpos : 0 < (blockAt q a).code.length := by
    obtain ⟨x, hx, _⟩ := j.ca
    rw [hx]; simp
  refine ⟨ib, w, cells, ic, cca, ccb, r5, rb, m.lo, hn5, ca, cb, jb.len, ra, rbb, la, lb, hna, sa.2.1, sa.1, hib, i5lt, ?_⟩
  generalize hh : ((h.del (ic a.toNat)).push (.cells (cca.take (((blockAt q a).code.length - 1) * 8) ++ ccb))).set ib (.cells (cells.set (a.toNat * 3 + 2) (.rf 8 h.nx 0 ((blockAt q a).code.length - 1 + (blockAt q b).code.length)))) = h'
  have nx' : h'.nx = h.nx + 1 := by rw [← hh]; rfl
  have lo' : h'.lo = h.lo := by rw [← hh]; rfl
  have bk : ∀ i, i < h.nx → i ≠ ib → i ≠ ic a.toNat → h'.blk i = h.blk i := fun i q1 q2 q3 => by
    rw [← hh, blk_set, if_neg q2, blk_push, if_neg (by simp; omega), blk_del, if_neg q3]
  have rib : h'.row ib = some (cells.set (a.toNat * 3 + 2) (.rf 8 h.nx 0 ((blockAt q a).code.length - 1 + (blockAt q b).code.length))) := by rw [← hh, row_set, if_pos rfl]
  have rnew : h'.row h.nx = some (cca.take (((blockAt q a).code.length - 1) * 8) ++ ccb) := by
    rw [← hh, row_set, if_neg (by omega)]
    simp only [AH.row, blk_push, nx_del, if_true]
  have hS : ∀ i, S i → h'.blk i = h.blk i := fun i hi => by
    obtain ⟨u1, u2, u3, u4⟩ := sS i (.inl hi)
    exact bk i u1 (nmb i u4) fun e => (jb.out _ han).1 (e ▸ hi)
  have hclen : ((blockAt q a).code.dropLast ++ (blockAt q b).code).length = (blockAt q a).code.length - 1 + (blockAt q b).code.length := by simp
  have up := jb.upd (h' := h') han ((blockAt q a).code.dropLast ++ (blockAt q b).code) (i := h.nx) (cc := cca.take (((blockAt q a).code.length - 1) * 8) ++ ccb) rnew
    (by rw [List.length_append, List.length_take, hclen, Nat.add_mul]; omega) (by omega)
    (by
      rw [List.map_append, List.flatten_append]
      refine RepL.append ?_ (eb.imp fun _ _ q => q.agree (by omega) fun i hi _ => hS i hi)
      have e1 := (ea.imp fun _ _ q => q.agree (h' := h') (by omega) fun i hi _ => hS i hi).take (((blockAt q a).code.length - 1) * 8)
      rw [show ((blockAt q a).code.map Enc.c).flatten.take (((blockAt q a).code.length - 1) * 8) = ((blockAt q a).code.dropLast.map Enc.c).flatten from by rw [List.dropLast_eq_take]; exact flat_take (blockAt q a).code ((blockAt q a).code.length - 1)] at e1
      exact e1)
    (by omega) (by omega) (fun hi => by have := (sS _ (.inl hi)).1; omega)
    (fun k hk hne hi => by
      obtain ⟨u1, u2, u3, u4⟩ := sS k hi
      exact bk k hk (nmb k u4) hne)
  have hset : q.blocks.set a.toNat { q.blocks[a.toNat] with code := (blockAt q a).code.dropLast ++ (blockAt q b).code } = (mrg q a).blocks := by
    simp only [mrg, mrgB, j.jb, hba]
  rw [hset, hclen] at up
  have hml : (mrg q a).blocks.length = q.blocks.length := mrg_len
  refine ⟨?_, by rw [lo']; exact m.lo, ⟨i0, by omega⟩, w, .rf 3 ib 0 q.blocks.length, _, _, S, ?_, ⟨?_, .inr ⟨ib, by rw [hml], rib, by omega, by rw [lo']; exact lob⟩⟩, by rw [List.take_length]; exact up, ?_, ?_, nb5, nb0⟩
  · rw [← m.r0]; simp only [AH.row, bk 0 (by omega) hn0 (fun e => sa.2.2.1 e.symm)]
  · have : h'.row i5 = h.row i5 := by simp only [AH.row, bk i5 i5lt hn5 (fun e => sa.2.1 e.symm)]
    rw [this, r5]; rfl
  · rw [List.length_set, hml]; exact lc
  · exact rw0.agree (by omega) fun i hi _ => hS i hi
  · rw [List.take_length]
    rintro i (hi | ⟨c, hc, e⟩)
    · obtain ⟨u1, u2, u3, u4⟩ := sS i (.inl hi)
      exact ⟨by omega, u2, u3, u4⟩
    · rw [hml] at hc
      have e : i = if c = a.toNat then h.nx else ic c := e
      by_cases hca : c = a.toNat
      · rw [if_pos hca] at e
        subst e
        exact ⟨by omega, by omega, by omega, fun ⟨z, o, n, q⟩ => by cases q; omega⟩
      · rw [if_neg hca] at e
        obtain ⟨u1, u2, u3, u4⟩ := sS (ic c) (.inr ⟨c, hc, rfl⟩)
        subst e
        exact ⟨by omega, u2, u3, u4⟩
end Go.Proofs.Ytpdgjdnipkmocaa

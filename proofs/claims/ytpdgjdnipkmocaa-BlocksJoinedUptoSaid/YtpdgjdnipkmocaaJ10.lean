/- The program's 'Join'. -/
import Derived.Test.YtpdgjdnipkmocaaJ9
set_option linter.unusedVariables false
set_option linter.unusedSimpArgs false
namespace Go.Proofs.Ytpdgjdnipkmocaa
open Go.Ev

section
variable {S : Nat → Prop} {h : AH}
theorem RepL.imp2 {R R' : PV → PV → Prop} : ∀ {x y : List PV}, (∀ a b, b ∈ y → R a b → R' a b) → RepL R x y → RepL R' x y
  | [], [], _, _ => trivial
  | a :: x, b :: y, hr, h => ⟨hr _ _ List.mem_cons_self h.1, RepL.imp2 (fun a b hb => hr a b (List.mem_cons_of_mem _ hb)) h.2⟩
  | [], _ :: _, _, h => h.elim
  | _ :: _, [], _, h => h.elim
theorem Rep.flat : ∀ {d : Nat} {v u : PV}, Rep S h (d + 1) v u → imm d u = true → Rep S h d v u
  | 0, v, u, r, i => by simp [imm] at i
  | d + 1, v, u, r, i => by
    cases u with
    | sl n us =>
      obtain ⟨z, cs, e1, e2, e3, e4⟩ := r
      refine ⟨z, cs, e1, e2, e3, RepL.imp2 (R := Rep S h (d + 1)) (fun a b hb q => Rep.flat (d := d) (v := a) (u := b) q ?_) e4⟩
      simp [imm] at i
      simp_all
    | agg us =>
      obtain ⟨cs, e1, e4⟩ := r
      refine ⟨cs, e1, RepL.imp2 (R := Rep S h (d + 1)) (fun a b hb q => Rep.flat (d := d) (v := a) (u := b) q ?_) e4⟩
      simp [imm] at i
      simp_all
    | _ => exact ⟨r.1, i⟩
end

theorem Join_p (p : LProc) (hj : JFit p) {K : Nat} (hst : Stops p K) : Pure T 22 [.agg (Enc.c p)] (.tup [.agg (Enc.c (tidyP (joinK K p))), .int .i64 (K : Nat), .int .i64 0]) false := by
  refine ⟨c22, rfl, rfl, ?_⟩
  have hK := hst.le hj
  have hol := (order_nums p).length
  have hp1 := hj.fit.1.1
  simp [c22, laid_r p hj.fit.1, hj.la]
  refine proc_c p hj.fit.2.1 (S := fun _ => False) (m := 5) (v1 := sl p.params) (v3 := sl p.sig.params) (v5 := sl p.sig.result) (v7 := sl p.blocks) (by decide) (Rep.data (by simp) rs_LVar _) (Rep.data (by simp) (rs_sl (by simp) rs_str) _) (Rep.data (by simp) rs_str _) (by rfl) (by simp) (fun w h1 aw nw k1 => ?_)
  have kn := k1.1
  have kl := k1.2.1
  simp at kn kl
  have r0 : h1.row 0 = some zero9 := by rw [k1.row (by simp)]; simp [zero9]
  have lo1 : h1.lo ≤ h1.nx := by omega
  simp [pcell, lo1]
  have hm : J0 p h1.nx 0 (h1.push (.cells (pcell p (sl p.params) w (sl p.sig.result) .emp))) := by
    refine ⟨by simp; rw [if_neg (by omega)]; exact r0, by simp; omega, ⟨by omega, by simp⟩, w, .emp, [], fun _ => 0, nm w, by simp, Acc.emp, by simpa using JB.nil, ?_, ?_, ?_, ?_⟩
    · exact Acc.rep (α := List ByteArray) (d := 4) (aw.push _) rfl (fun i hi => hi) (rs_sl (by simp) rs_str)
    · rintro i (hi | ⟨c, hc, _⟩)
      · have u := (aw.names hi).1
        obtain ⟨z, o, n, e⟩ := hi
        have := nw z i o n e
        simp at this
        exact ⟨by simp; omega, by omega, by omega, fun ⟨_, _, _, q⟩ => by cases q⟩
      · simp at hc
    · rintro ⟨_, _, _, q⟩; cases q
    · rintro ⟨_, _, _, q⟩; cases q
  refine join_copy p hj.fit (laid_true hj.la) h1.nx (by simp) (by simp) (by simp) (by simp) hm (fun s2 h2 hs2 j2 => ?_)
  have g2 : s2 2 = .pt 0 0 := (hs2 2 (by decide)).trans (by simp)
  have g5 : s2 5 = .pt h1.nx 0 := (hs2 5 (by decide)).trans (by simp)
  simp
  generalize h1.nx = i5 at *
  refine WK_loop tgrow (fun k s' h' => s' 8 = .int .i64 (k : Nat) ∧ k ≤ K ∧ J0 (joinK k p) i5 (joinK k p).blocks.length h') K w22_1 (by decide) ⟨by simp, by omega, j2⟩ ?_
  rintro k s' h' hk ⟨e8, kle, mj⟩ hs' hg
  have f2 : s' 2 = .pt 0 0 := (hs' 2 (by decide)).trans (by simp [g2])
  have f5 : s' 5 = .pt i5 0 := (hs' 5 (by decide)).trans (by simp [g5])
  have hjk := joinK_fit hj k
  have hlw : h'.lo ≤ h'.nx := by have := mj.lo; omega
  have hk2 : k < 9223372036854775807 := by omega
  obtain ⟨w, bv, r5, rw', rbv⟩ := mj.blocks
  have q3 : snap h' 11 w = some (sl (joinK k p).sig.params) := (rw'.deep (d' := 11) (by decide)).snap
  have q7 : snap h' 11 bv = some (sl (joinK k p).blocks) := (rbv.deep (d' := 11) (by decide)).snap
  cases e : jointS (joinK k p) with
  | none =>
    have hkK : k = K := by
      apply Classical.byContradiction
      intro q
      exact hst.2 k (by omega) e
    subst hkK
    have ht := fun {o h d r κ s Q} => joint_r (o := o) (h := h) (d := d) (r := r) (κ := κ) (s := s) (Q := Q) (joinK k p) hjk.fit.1 hjk.la
    rw [e] at ht
    simp only [jointV] at ht
    have r0 := mj.r0
    have lo0 := mj.lo
    generalize hq : joinK k p = q at *
    simp [c22_1, f5, r5, pcell, q3, q7, ht]
    refine tidyE_c q (S := fun _ => True) (m0 := 0) (v1 := sl q.params) (v3 := w) (v5 := sl q.sig.result) (v7 := bv) (by decide) (Rep.data (by simp) rs_LVar _) rw' (Rep.data (by simp) rs_str _) rbv hjk.fit hjk.la hlw (fun cs h4 rcs k4 => ?_)
    have hcs : cs.length = 9 := by rw [rcs.length]; rfl
    have nx0 : 0 < h'.nx := by have := mj.lt; omega
    have u0 : h4.row 0 = some zero9 := by rw [k4.row nx0]; exact r0
    have lo4 : h4.lo = 0 := by rw [k4.2.1]; exact lo0
    have qcs : allO (snap (h4.set 0 (.cells cs)) 10) cs = some (Enc.c (tidyP q)) := by
      refine RepL.allO (RepL.imp2 (R := Rep (fun i => h'.nx ≤ i) h4 11) (fun a b hb z => ?_) rcs) (S := fun i => h'.nx ≤ i)
      have hz : imm 10 b = true := imm_mono _ _ _ (by decide) (Enc.im (tidyP q) b hb)
      refine (Rep.flat z hz).agree (by simp) fun i hi _ => ?_
      rw [blk_set, if_neg (by omega)]
    have htk : cs.take 9 = cs := List.take_of_length_le (by omega)
    simp [f2, e8, u0, hcs, lo4, htk, zero9, qcs]
  | some a =>
    have hkK : k < K := by
      rcases Nat.lt_or_ge k K with q | q
      · exact q
      · have : k = K := by omega
        subst this
        rw [hst.1] at e; cases e
    have ht := fun {o h d r κ s Q} => joint_r (o := o) (h := h) (d := d) (r := r) (κ := κ) (s := s) (Q := Q) (joinK k p) hjk.fit.1 hjk.la
    rw [e] at ht
    simp only [jointV] at ht
    have hsu := joinK_succ e
    have jn := jn_of e
    obtain ⟨ib, w2, cells, ic, cca, ccb, s5, sib, slo, n5b, c1, c2, cl, ra, rb, la, lb, nab, na5, nai, nbi, n5i, st⟩ := mj.step jn
    rw [← hsu] at st
    have hpos1 : 0 < (blockAt (joinK k p) a).code.length := by
      obtain ⟨x, hx, _⟩ := jn.ca
      rw [hx]; simp
    have hpos2 := laidB_code (laid_at (laid_true jn.la) (a := jb (joinK k p) a) (by have := jn.bb; omega))
    have l1 := (hjk.fit.1.2 _ (blockAt_mem (p := joinK k p) (a := a) (by have := jn.ba; omega))).1
    have l2 := (hjk.fit.1.2 _ (blockAt_mem (p := joinK k p) (a := jb (joinK k p) a) (by have := jn.bb; omega))).1
    obtain ⟨a0, a1⟩ := jn.ba
    obtain ⟨b0, b1⟩ := jn.bb
    generalize joinK (k + 1) p = q2 at *
    generalize hb : jb (joinK k p) a = b at *
    generalize joinK k p = q at *
    have han : a.toNat < q.blocks.length := by omega
    have hbn : b.toNat < q.blocks.length := by omega
    generalize (blockAt q a).code.length = na at *
    generalize (blockAt q b).code.length = nb at *
    have hwv : w = w2 ∧ bv = .rf 3 ib 0 q.blocks.length := by
      rw [r5] at s5
      simp [pcell] at s5
      exact s5
    obtain ⟨rfl, rfl⟩ := hwv
    have hw : IntKind.i64.wrap ((na : Int) - 1) = ((na - 1 : Nat) : Int) := by rw [w64 (by omega)]; omega
    have hev : evAp h' 8 112 (.rf 8 (ic a.toNat) 0 (na - 1)) (.rf 8 (ic b.toNat) 0 nb) = some (.rf 8 h'.nx 0 (na - 1 + nb), (h'.del (ic a.toNat)).push (.cells (cca.take ((na - 1) * 8) ++ ccb))) := by
      obtain ⟨nb, rfl⟩ : ∃ n, nb = n + 1 := ⟨nb - 1, by omega⟩
      have hlo : h'.lo ≤ ic a.toNat := by omega
      have hr : roomOk (na - 1 + (nb + 1)) (112 + 1) = true := room (by omega)
      simp only [evAp, evApp, lowOk_rf, hlo, decide_true, if_true, src_rf, rb, rowSrc_some (show 0 + (nb + 1) * 8 ≤ ccb.length by omega), ra]
      rw [if_pos ⟨trivial, by omega, hr⟩, List.drop_zero, List.drop_zero, List.take_of_length_le (l := ccb) (by omega)]
    have hlb : h'.lo ≤ ib := by omega
    have hcl2 : a.toNat * 3 + 2 < cells.length := by omega
    have hcl3 : b.toNat * 3 + 2 < cells.length := by omega
    have c1g : cells[a.toNat * 3 + 2] = .rf 8 (ic a.toNat) 0 na := by rw [List.getElem?_eq_getElem hcl2] at c1; exact Option.some.inj c1
    have c2g : cells[b.toNat * 3 + 2] = .rf 8 (ic b.toNat) 0 nb := by rw [List.getElem?_eq_getElem hcl3] at c2; exact Option.some.inj c2
    have hib : ¬ ib = h'.nx := by omega
    have evn : ∀ {i o : Nat}, evNilchk (.pt i o) = some (.pt i o) := rfl
    simp [c22_1, f5, r5, pcell, q3, q7, ht, evIdx_rfi a0 han, evIdx_rfi b0 hbn, sib, hcl3, c1g, c2g, evn, hw, evSlice_rf_hi (show na - 1 ≤ na by omega), hev, Ne.symm nab, hib, slo, hcl2, e8, hk2, hkK]
    simp [hib] at st
    exact ⟨by omega, st⟩
theorem Join_r (p : LProc) (hj : JFit p) {K : Nat} (hst : Stops p K) {h : AH} {d : Option Nat} {r : List COper} {κ : List KF} {s : Fr} {Q : Fr → AH → Prop} : pureK T 22 (some [.agg [PV.str p.name, sl p.params, PV.int .i64 p.result, sl p.sig.params, PV.str p.sig.base, sl p.sig.result, PV.str p.sig.rest, sl p.blocks, PV.bool p.extern]]) false h d r κ s Q = WR T r κ (Fr.put s d (.tup [.agg (Enc.c (tidyP (joinK K p))), .int .i64 (K : Nat), .int .i64 0])) h Q := pureK_eq (Join_p p hj hst) (.inr rfl)
end Go.Proofs.Ytpdgjdnipkmocaa

/- 'Tidy' of a procedure whose parts are own memory. -/
import Derived.Test.YtpdgjdnipkmocaaP3
set_option linter.unusedVariables false
set_option linter.unusedSimpArgs false
namespace Go.Proofs.Ytpdgjdnipkmocaa
open Go.Ev

section
variable {h : AH} {d : Option Nat} {r : List COper} {κ : List KF} {s : Fr} {Q : Fr → AH → Prop} {S : Nat → Prop}

theorem pcell_rep {m : Nat} {p : LProc} {v1 v3 v5 v7 : PV} (hm : 0 < m) (r1 : Rep S h m v1 (sl p.params)) (r3 : Rep S h m v3 (sl p.sig.params)) (r5 : Rep S h m v5 (sl p.sig.result)) (r7 : Rep S h m v7 (sl p.blocks)) : RepL (Rep S h m) (pcell p v1 v3 v5 v7) (Enc.c p) := by
  obtain ⟨m, rfl⟩ : ∃ n, m = n + 1 := ⟨m - 1, by omega⟩
  exact ⟨by simp, r1, by simp, r3, by simp, r5, by simp, r7, by simp, trivial⟩

theorem TidyE_c (p : LProc) {m0 : Nat} {v1 v3 v5 v7 : PV} (hm0 : m0 + 5 ≤ 11) (r1 : Rep S h (m0 + 5) v1 (sl p.params)) (r3 : Rep S h (m0 + 5) v3 (sl p.sig.params)) (r5 : Rep S h (m0 + 5) v5 (sl p.sig.result)) (r7 : Rep S h (m0 + 5) v7 (sl p.blocks))
    (hp : Fit p) (hl : laid p = true) (hlw : h.lo ≤ h.nx)
    (next : ∀ cs h', RepL (Rep (fun _ => True) h' 11) cs (Enc.c (tidyP p)) → Kept h h' → WR T r κ (Fr.put s d (.tup [.agg cs, .int .i64 0])) h' Q) :
    callK T 100019 [.agg (pcell p v1 v3 v5 v7)] h d r κ s Q := by
  refine callK_bar tok (c := c100019) rfl rfl rfl hlw ?_
  have hb0 : Blw h (h.bar.push (.cells zero9)) := .push (.bar h) _
  have q1 : snap (h.bar.push (.cells zero9)) 11 v1 = some (sl p.params) := ((r1.blw hb0).deep hm0).snap
  have q3 : snap (h.bar.push (.cells zero9)) 11 v3 = some (sl p.sig.params) := ((r3.blw hb0).deep hm0).snap
  have q5 : snap (h.bar.push (.cells zero9)) 11 v5 = some (sl p.sig.result) := ((r5.blw hb0).deep hm0).snap
  have q7 : snap (h.bar.push (.cells zero9)) 11 v7 = some (sl p.blocks) := ((r7.blw hb0).deep hm0).snap
  simp only [zero9] at q1 q3 q5 q7
  simp [c100019, pcell, q1, q3, q5, q7, laid_r p hp.1, hl]
  refine callK_bar tok (c := c100041) rfl rfl rfl (by simp) ?_
  have hb1 : Blw h (h.bar.push (.cells zero9)).bar := hb0.trans (.bar _)
  refine tidy_w p (m0 := m0) (by simp; omega) (r1.blw hb1) (r3.blw hb1) (r5.blw hb1) (r7.blw hb1) hp.1 hp.2.1 hp.2.2 hl (by simp) (fun s' h' v e1 e2 => ?_)
  intro lo1 k1
  refine ⟨v, e1, ?_⟩
  obtain ⟨cs, rfl, rcs⟩ := e2
  have nx1 := k1.1
  simp at nx1
  have rz : h'.row h.nx = some zero9 := by
    have := k1.row (i := h.nx) (by simp)
    simpa [zero9] using this
  have hcs : cs.length = 9 := by rw [rcs.length]; rfl
  simp [rz, zero9, hcs]
  intro k2
  rw [List.take_of_length_le (by omega)]
  refine next cs _ (rcs.imp fun _ _ q => (q.agree (by simp) fun i hi _ => ?_).mono fun _ _ => trivial) k2
  simp only [blk_unbar, blk_set]
  rw [if_neg (by simp at hi; omega)]
end
end Go.Proofs.Ytpdgjdnipkmocaa

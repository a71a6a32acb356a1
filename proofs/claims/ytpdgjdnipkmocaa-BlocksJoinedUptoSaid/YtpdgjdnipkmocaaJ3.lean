/- The program's 'joint', evaluated: the loop over the order. -/
import Derived.Test.YtpdgjdnipkmocaaJ2
set_option linter.unusedVariables false
set_option linter.unusedSimpArgs false
namespace Go.Proofs.Ytpdgjdnipkmocaa
open Go.Ev

def jointV : Option Int → LProc → PV
  | none, _ => .tup [.int .i64 0, .int .i64 0, .bool false]
  | some a, p => .tup [.int .i64 a, .int .i64 (jb p a), .bool true]

theorem jumps_r (x : LInstr) {o : Bool} {h : AH} {d : Option Nat} {r : List COper} {κ : List KF} {s : Fr} {Q : Fr → AH → Prop} : pureK T 69 (some [.agg [PV.int .i64 x.op, PV.int .i64 x.to, sl x.args, sl x.more, PV.int .i64 x.con, PV.int .i64 x.num, PV.int .i64 x.fn, sl x.jump]]) o h d r κ s Q = WR T r κ (Fr.put s d (.bool (decide (x.op = 8)))) h Q := pureK_eq (jumps_p x) (.inl rfl)

theorem joint_p (p : LProc) (hp : FitP p) (hl : laid p = true) : Pure T 47 [.agg (Enc.c p)] (jointV (jointS p) p) true := by
  refine ⟨c47, rfl, rfl, ?_⟩
  have hlp := laid_true hl
  have hN := order_nums p
  have hol := hN.length
  have hp1 := hp.1
  simp [c47, all_r p hp hl]
  refine WK_range tgrow (fun (k : Nat) (s' : Fr) (h' : AH) => jointS p = ((order p).drop k).find? (jointAt p)) (order p).length w47_0 rfl (by decide) (by simp) (by simp) (by omega) (by decide) (fun _ _ _ _ j _ => j) (by simp [jointS]) ?_ ?_
  · rintro k s' h' hk jf hi hs hg
    have f1 : s' 1 = .pi (Enc.c p) := (hs 1 (by decide)).trans (by simp)
    have f5 : s' 5 = sl (order p) := (hs 5 (by decide)).trans (by simp)
    have f17 : s' 17 = sl (order p) := (hs 17 (by decide)).trans (by simp)
    have f18 : s' 18 = .int .i64 ((order p).length : Int) := (hs 18 (by decide)).trans (by simp)
    obtain ⟨a0, a1⟩ := hN.2 _ (List.getElem_mem hk)
    rw [List.drop_eq_getElem_cons hk] at jf
    generalize ha : (order p)[k] = a at *
    have hb : a.toNat < p.blocks.length := by omega
    have hbm := List.getElem_mem hb
    have hba : blockAt p a = p.blocks[a.toNat] := by simp [blockAt, hb]
    generalize hbb : p.blocks[a.toNat] = b at hbm hba
    have fb := hp.2 b hbm
    obtain ⟨x, hxl, _, hlo, hjo⟩ := hlp.2 b hbm
    have hbl : 0 < b.code.length := by
      cases hc : b.code with
      | nil => rw [hc] at hxl; cases hxl
      | cons _ _ => simp
    have hcn : b.code.length - 1 < b.code.length := by omega
    have hx : b.code[b.code.length - 1] = x := by
      have := getLast_eq hbl
      rw [hxl] at this
      exact (Option.some.inj this).symm
    have hw : IntKind.i64.wrap ((b.code.length : Int) - 1) = ((b.code.length - 1 : Nat) : Int) := by rw [w64 (by have := fb.1; omega)]; omega
    have hsu : succ p a = Go.Proofs.Ytpdgjdnipkmocaa.next b := by simp [succ, hb, hbb]
    have not : jointAt p a = false → jointS p = ((order p).drop (k + 1)).find? (jointAt p) := fun q => by
      rw [jf, List.find?_cons, q]
    simp [hi, f1, f17, evIdx_nat, rd1_ptr, hk, ha, evIdx_sl, a0, hb, rds_ptr, hbb, next_r b fb]
    have hJ : jointAt p a = decide ((Go.Proofs.Ytpdgjdnipkmocaa.next b).length = 1 ∧ x.op = 8 ∧ jb p a ≠ a ∧ jb p a ≠ 0 ∧ cntB p (jb p a) ≤ 1) := by
      unfold jointAt
      rw [hsu, hba, hxl]
      simp
    by_cases c1 : (Go.Proofs.Ytpdgjdnipkmocaa.next b).length = 1
    case neg =>
      have c1' : ¬ ((Go.Proofs.Ytpdgjdnipkmocaa.next b).length : Int) = 1 := by omega
      simp [c1', hi]
      exact not (by rw [hJ]; simp [c1])
    obtain ⟨y, hy⟩ := List.length_eq_one_iff.1 c1
    have hjb : jb p a = y := by simp [jb, hsu, hy]
    have hyl : 0 < [y].length := by simp
    simp [hy, hw, evIdx_nat, hcn, rds_ptr, hx, jumps_r]
    by_cases c2 : x.op = 8
    case neg =>
      simp [c2, hi]
      exact not (by rw [hJ]; simp [c2])
    have e0 : evIdx 1 (sl [y]) 0 = some (ptr [y] 0 0) := by
      exact evIdx_nat (l := [y]) (k := 0) rfl (by simp)
    simp [c2, f1, evIdx_sl, a0, hb, rds_ptr, hbb, next_r b fb, hy, e0, rd1_ptr]
    by_cases c3 : y = a
    · simp [c3, hi]
      exact not (by rw [hJ, hjb]; simp [c3])
    by_cases c4 : y = 0
    · subst c4
      simp [c3, hi]
      exact not (by rw [hJ, hjb]; simp)
    simp [c3, c4, f5]
    refine joint_in1 p hp y (order p) (by omega) hN.2 (by simp [f1]) (by simp) (by simp) (by simp) (by simp) (by simp) (fun s2 h2 hs2 hg2 hmore => ?_) (fun s2 h2 hs2 hg2 hle => ?_)
    · have g19 : s2 19 = .int .i64 (k : Nat) := (hs2 19 (by decide)).trans (by simp [hi])
      simp [g19]
      refine not ?_
      rw [hJ, hjb, decide_eq_false_iff_not]
      rintro ⟨_, _, _, _, q⟩
      have : cntB p y ≤ 1 := q
      simp only [cntB] at this
      omega
    · have g7 : s2 7 = .int .i64 a := (hs2 7 (by decide)).trans (by simp)
      have g9 : s2 9 = .int .i64 y := (hs2 9 (by decide)).trans (by simp)
      have hyes : jointS p = some a := by
        rw [jf, List.find?_cons]
        have : jointAt p a = true := by
          rw [hJ, hjb, decide_eq_true_eq]
          exact ⟨c1, c2, c3, c4, hle⟩
        rw [this]
      simp [g7, g9, hyes, jointV, hjb]
  · rintro s' h' jf hs hg
    rw [List.drop_length] at jf
    simp [jf, jointV]
theorem joint_r (p : LProc) (hp : FitP p) (hl : laid p = true) {o : Bool} {h : AH} {d : Option Nat} {r : List COper} {κ : List KF} {s : Fr} {Q : Fr → AH → Prop} : pureK T 47 (some [.agg [PV.str p.name, sl p.params, PV.int .i64 p.result, sl p.sig.params, PV.str p.sig.base, sl p.sig.result, PV.str p.sig.rest, sl p.blocks, PV.bool p.extern]]) o h d r κ s Q = WR T r κ (Fr.put s d (jointV (jointS p) p)) h Q := pureK_eq (joint_p p hp hl) (.inl rfl)
end Go.Proofs.Ytpdgjdnipkmocaa

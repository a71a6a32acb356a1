/- The reference: what a node uses and binds, and where it leads. -/
import Derived.Test.YtbnfcdjlbabddaaV1
set_option linter.unusedVariables false
set_option linter.unusedSimpArgs false
namespace Go.Proofs.Ytbnfcdjlbabddaa
open Go.Ev

section
variable {o : Bool} {h : AH} {d : Option Nat} {r : List COper} {κ : List KF} {s : Fr} {Q : Fr → AH → Prop}

theorem kidsR_p (n : LNode) (hn : FitN n) : Pure T 62 [.agg (Enc.c n)] (sl (kids n)) true := by
  refine ⟨c62, rfl, rfl, ?_⟩
  obtain ⟨-, -, hb, -⟩ := hn
  by_cases h1 : n.op = 1 ∨ n.op = 2 ∨ n.op = 3 ∨ n.op = 4 ∨ n.op = 5 ∨ n.op = 6
  · have hk : kids n = [n.next] := by unfold kids isNext; rw [if_pos (by simp; omega)]
    rw [hk]
    rcases h1 with h1 | h1 | h1 | h1 | h1 | h1 <;> (simp [c62, h1, evAp, evApp, room, src_psl]; exact ⟨rfl, rfl⟩)
  have n1 : ¬ n.op = 1 := by omega
  have n2 : ¬ n.op = 2 := by omega
  have n3 : ¬ n.op = 3 := by omega
  have n4 : ¬ n.op = 4 := by omega
  have n5 : ¬ n.op = 5 := by omega
  have n6 : ¬ n.op = 6 := by omega
  by_cases h9 : n.op = 9
  · have hk : kids n = n.branches.map (·.thn) := by
      have h1' : isNext 9 = false := by decide
      simp [kids, h9, h1']
    obtain ⟨L, hL⟩ := stages (fun l => l.map LBranch.thn) n.branches
    have L0 : L 0 = [] := by rw [hL]; rfl
    have Ls : ∀ k (hk : k < n.branches.length), L (k + 1) = L k ++ [n.branches[k].thn] := fun k hk => by rw [hL]; simp only; rw [take_succ' hk, List.map_append]; rfl
    have Ln : L n.branches.length = kids n := by rw [hL, hk]; simp
    simp [c62, h9]
    refine WK_loop tgrow (fun k s' h' => s' 4 = .int .i64 (k : Nat) ∧ Acc h' (s' 3) 1 ((L k).map Enc.c).flatten k) n.branches.length w62_0 (by decide) (by simp [L0]; exact Acc.emp) ?_
    rintro k s' h' hk1 ⟨e4, ja⟩ hs hg
    have f1 : s' 1 = .pi (Enc.c n) := (hs 1 (by decide)).trans (by simp [h9])
    have hlw' : h'.lo ≤ h'.nx := hg.low (by simp)
    simp [c62_0, e4, f1]
    by_cases hkl : k < n.branches.length
    · have hk2 : k < 9223372036854775807 := by omega
      simp [hkl, e4, f1, evIdx_nat, rd1_ptr, -WR_app]
      refine WR_app_acc (m := 1) (ys := [.int .i64 n.branches[k].thn]) (by simpa using ja) (by simp; exact src_psl rfl) (by rfl) hlw' (room (by omega)) (fun v1 h2 ha1 hm1 => ?_)
      simp [e4, hk2, Ls k hkl]
      simpa using ha1
    · have hkn : k = n.branches.length := by omega
      rw [hkn, Ln] at ja
      have hlen : n.branches.length = (kids n).length := by rw [hk]; simp
      simp [hkl, ja.snap hlen, ja.freshInts]
  · have hk : kids n = [] := by
      unfold kids isNext
      rw [if_neg (by simp; omega), if_neg h9]
    rw [hk]
    simp [c62, h9, n1, n2, n3, n4, n5, n6]

theorem bindsR_p (n : LNode) (hn : FitN n) : Pure T 65 [.agg (Enc.c n)] (sl (binds n)) true := by
  refine ⟨c65, rfl, rfl, ?_⟩
  obtain ⟨-, -, hb, hbb⟩ := hn
  by_cases h1 : n.op = 1 ∨ n.op = 2 ∨ n.op = 3 ∨ n.op = 4 ∨ n.op = 6
  · have hk : binds n = [n.var] := by unfold binds isBind; rw [if_pos (by simp; omega)]
    rw [hk]
    rcases h1 with h1 | h1 | h1 | h1 | h1 <;> (simp [c65, h1, evAp, evApp, room, src_psl]; exact ⟨rfl, rfl⟩)
  have n1 : ¬ n.op = 1 := by omega
  have n2 : ¬ n.op = 2 := by omega
  have n3 : ¬ n.op = 3 := by omega
  have n4 : ¬ n.op = 4 := by omega
  have n6 : ¬ n.op = 6 := by omega
  by_cases h9 : n.op = 9
  · have hk : binds n = n.branches.flatMap (·.binds) := by
      have h1' : isBind 9 = false := by decide
      simp [binds, h9, h1']
    obtain ⟨L, hL⟩ := stages (fun l => l.flatMap LBranch.binds) n.branches
    have L0 : L 0 = [] := by rw [hL]; rfl
    have Ls : ∀ k (hk : k < n.branches.length), L (k + 1) = L k ++ n.branches[k].binds := fun k hk => by rw [hL]; simp only; rw [take_succ' hk, List.flatMap_append]; simp
    have Ln : L n.branches.length = binds n := by rw [hL, hk]; simp
    have Ll : ∀ k, (L k).length ≤ 20 * 20 := fun k => by
      rw [hL]
      refine Nat.le_trans (flatMap_len (m := 20) fun x hx => hbb x (List.take_subset _ _ hx)) (Nat.mul_le_mul_right _ ?_)
      rw [List.length_take]; omega
    simp [c65, h9]
    refine WK_loop tgrow (fun k s' h' => s' 4 = .int .i64 (k : Nat) ∧ Acc h' (s' 3) 1 ((L k).map Enc.c).flatten (L k).length) n.branches.length w65_0 (by decide) (by simp [L0]; exact Acc.emp) ?_
    rintro k s' h' hk1 ⟨e4, ja⟩ hs hg
    have f1 : s' 1 = .pi (Enc.c n) := (hs 1 (by decide)).trans (by simp [h9])
    have hlw' : h'.lo ≤ h'.nx := hg.low (by simp)
    have l1 := Ll k
    simp [c65_0, e4, f1]
    by_cases hkl : k < n.branches.length
    · have hk2 : k < 9223372036854775807 := by omega
      have l2 := hbb _ (List.getElem_mem hkl)
      simp [hkl, e4, f1, evIdx_nat, rd1_ptr, -WR_app]
      refine WR_app_acc (m := n.branches[k].binds.length) (ys := (n.branches[k].binds.map Enc.c).flatten) (by simpa using ja) (by simp) (by simpa using flat_len' n.branches[k].binds) hlw' (room (by omega)) (fun v1 h2 ha1 hm1 => ?_)
      simp [e4, hk2, Ls k hkl, -flatInts_append]
      simpa [-flatInts_append] using ha1
    · have hkn : k = n.branches.length := by omega
      rw [hkn, Ln] at ja
      simp [hkl, ja.snap rfl, ja.freshInts]
  · have hk : binds n = [] := by
      unfold binds isBind
      rw [if_neg (by simp; omega), if_neg h9]
    rw [hk]
    simp [c65, h9, n1, n2, n3, n4, n6]

theorem usesR_p (n : LNode) (hn : FitN n) : Pure T 74 [.agg (Enc.c n)] (sl (uses n)) true := by
  refine ⟨c74, rfl, rfl, ?_⟩
  obtain ⟨ha, hm, -, -⟩ := hn
  by_cases h0 : n.op < 0 ∨ 10 ≤ n.op ∨ n.op = 1
  · have hu : uses n = [] := by unfold uses; rw [if_pos h0]
    rw [hu]
    by_cases q0 : n.op < 0
    · simp [c74, q0]
    by_cases q1 : 9 < n.op
    · simp [c74, q0, q1]
    have q2 : n.op = 1 := by omega
    simp [c74, q2]
  have q0 : ¬ n.op < 0 := by omega
  have q1 : ¬ 9 < n.op := by omega
  have q2 : ¬ n.op = 1 := by omega
  simp [c74, q0, q1, q2]
  obtain ⟨L, hL⟩ := stages (fun l => l.filter fun y => decide (n.op ≠ 8) || decide (0 ≤ y)) n.args
  have L0 : L 0 = [] := by rw [hL]; rfl
  have Ls : ∀ k (hk : k < n.args.length), L (k + 1) = if n.op ≠ 8 ∨ 0 ≤ n.args[k] then L k ++ [n.args[k]] else L k := fun k hk => by
    rw [hL]; simp only; rw [take_succ' hk, List.filter_append]
    split
    · rename_i q
      have : (decide (n.op ≠ 8) || decide (0 ≤ n.args[k])) = true := by simpa using q
      simp only [List.filter_cons, this, List.filter_nil, if_true]
    · rename_i q
      have : (decide (n.op ≠ 8) || decide (0 ≤ n.args[k])) = false := by simpa using q
      simp only [List.filter_cons, this, List.filter_nil, Bool.false_eq_true, if_false, List.append_nil]
  have Ll : ∀ k, (L k).length ≤ 20 := fun k => by
    rw [hL]
    refine Nat.le_trans (List.length_filter_le _ _) ?_
    rw [List.length_take]; omega
  refine WK_loop tgrow (fun k s' h' => s' 4 = .int .i64 (k : Nat) ∧ Acc h' (s' 3) 1 ((L k).map Enc.c).flatten (L k).length) n.args.length w74_0 (by decide) (by simp [L0]; exact Acc.emp) ?_
  rintro k s' h' hk1 ⟨e4, ja⟩ hs hg
  have f1 : s' 1 = .pi (Enc.c n) := (hs 1 (by decide)).trans (by simp)
  have hlw' : h'.lo ≤ h'.nx := hg.low (by simp)
  have l1 := Ll k
  simp [c74_0, e4, f1]
  by_cases hkl : k < n.args.length
  · have hk2 : k < 9223372036854775807 := by omega
    have hls := Ls k hkl
    by_cases hc : n.op ≠ 8 ∨ 0 ≤ n.args[k]
    · rw [if_pos hc] at hls
      by_cases h8 : n.op = 8
      · have hc' : 0 ≤ n.args[k] := by rcases hc with q | q; exact absurd h8 q; exact q
        simp [hkl, h8, e4, f1, evIdx_nat, rd1_ptr, hc', -WR_app]
        refine WR_app_acc (m := 1) (ys := [.int .i64 n.args[k]]) (by simpa using ja) (by simp; exact src_psl rfl) (by rfl) hlw' (room (by omega)) (fun v1 h2 ha1 hm1 => ?_)
        simp [e4, hk2, hls]
        simpa using ha1
      · simp [hkl, h8, e4, f1, evIdx_nat, rd1_ptr, -WR_app]
        refine WR_app_acc (m := 1) (ys := [.int .i64 n.args[k]]) (by simpa using ja) (by simp; exact src_psl rfl) (by rfl) hlw' (room (by omega)) (fun v1 h2 ha1 hm1 => ?_)
        simp [e4, hk2, hls]
        simpa using ha1
    · rw [if_neg hc] at hls
      have h8 : n.op = 8 := Classical.byContradiction fun q => hc (.inl q)
      have hc' : ¬ 0 ≤ n.args[k] := fun q => hc (.inr q)
      simp [hkl, h8, e4, f1, evIdx_nat, rd1_ptr, hc', hk2, hls]
      exact ja
  have hkn : k = n.args.length := by omega
  rw [hkn] at ja
  by_cases h8 : n.op = 8
  · simp [hkl, f1, h8]
    obtain ⟨M, hM⟩ := stages (fun l => l.filter fun y => decide (0 ≤ y)) n.more
    have M0 : M 0 = [] := by rw [hM]; rfl
    have Ms : ∀ k (hk : k < n.more.length), M (k + 1) = if 0 ≤ n.more[k] then M k ++ [n.more[k]] else M k := fun k hk => by
      rw [hM]; simp only; rw [take_succ' hk, List.filter_append]
      split
      · rename_i q; simp [q]
      · rename_i q; simp [q]
    have Ml : ∀ k, (M k).length ≤ 20 := fun k => by
      rw [hM]
      refine Nat.le_trans (List.length_filter_le _ _) ?_
      rw [List.length_take]; omega
    obtain ⟨U, hU⟩ : ∃ U : Nat → List Int, U = fun k => L n.args.length ++ M k := ⟨_, rfl⟩
    have U0 : U 0 = L n.args.length := by rw [hU]; simp [M0]
    have Us : ∀ k (hk : k < n.more.length), U (k + 1) = if 0 ≤ n.more[k] then U k ++ [n.more[k]] else U k := fun k hk => by
      rw [hU]; simp only; rw [Ms k hk]
      split
      · rw [List.append_assoc]
      · rfl
    have Ul : ∀ k, (U k).length ≤ 40 := fun k => by
      rw [hU]; simp only; rw [List.length_append]
      have := Ml k; have := Ll n.args.length; omega
    have hu : U n.more.length = uses n := by
      unfold uses
      rw [if_neg h0, if_pos h8, hU, hL, hM]
      simp [h8]
    rw [← U0] at ja
    clear hU Ms M0 Ml hM U0 Ls
    refine WK_loop tgrow (fun k s' h' => s' 5 = .int .i64 (k : Nat) ∧ Acc h' (s' 3) 1 ((U k).map Enc.c).flatten (U k).length) n.more.length w74_1 (by decide) (by simp; simpa using ja) ?_
    rintro k s2 h2 hk1 ⟨e5, jb⟩ hs2 hg2
    have g1 : s2 1 = .pi (Enc.c n) := (hs2 1 (by decide)).trans (by simp [f1])
    have hlw2 : h2.lo ≤ h2.nx := hg2.low hlw'
    have l1 := Ul k
    simp [c74_1, e5, g1]
    by_cases hkl : k < n.more.length
    · have hk2 : k < 9223372036854775807 := by omega
      have hls := Us k hkl
      by_cases hc : 0 ≤ n.more[k]
      · rw [if_pos hc] at hls
        simp [hkl, e5, g1, evIdx_nat, rd1_ptr, hc, -WR_app]
        refine WR_app_acc (m := 1) (ys := [.int .i64 n.more[k]]) (by simpa using jb) (by simp; exact src_psl rfl) (by rfl) hlw2 (room (by omega)) (fun v1 h2 ha1 hm1 => ?_)
        simp [e5, hk2, hls]
        simpa using ha1
      · rw [if_neg hc] at hls
        simp [hkl, e5, g1, evIdx_nat, rd1_ptr, hc, hk2, hls]
        exact jb
    · have hkn : k = n.more.length := by omega
      rw [hkn, hu] at jb
      simp [hkl, jb.snap rfl, jb.freshInts]
  · have hu : L n.args.length = uses n := by
      unfold uses
      rw [if_neg h0, if_neg h8, hL]
      simp [h8]
    rw [hu] at ja
    simp [hkl, f1, h8, ja.snap rfl, ja.freshInts]
theorem kidsR_r (n : LNode) (hn : FitN n) : pureK T 62 (some [.agg [PV.int .i64 n.op, PV.int .i64 n.var, sl n.args, PV.int .i64 n.con, PV.int .i64 n.num, PV.int .i64 n.fn, sl n.more, PV.bool n.take, sl n.branches, PV.int .i64 n.next]]) o h d r κ s Q = WR T r κ (Fr.put s d (sl (kids n))) h Q := pureK_eq (kidsR_p n hn) (.inl rfl)
theorem bindsR_r (n : LNode) (hn : FitN n) : pureK T 65 (some [.agg [PV.int .i64 n.op, PV.int .i64 n.var, sl n.args, PV.int .i64 n.con, PV.int .i64 n.num, PV.int .i64 n.fn, sl n.more, PV.bool n.take, sl n.branches, PV.int .i64 n.next]]) o h d r κ s Q = WR T r κ (Fr.put s d (sl (binds n))) h Q := pureK_eq (bindsR_p n hn) (.inl rfl)
theorem usesR_r (n : LNode) (hn : FitN n) : pureK T 74 (some [.agg [PV.int .i64 n.op, PV.int .i64 n.var, sl n.args, PV.int .i64 n.con, PV.int .i64 n.num, PV.int .i64 n.fn, sl n.more, PV.bool n.take, sl n.branches, PV.int .i64 n.next]]) o h d r κ s Q = WR T r κ (Fr.put s d (sl (uses n))) h Q := pureK_eq (usesR_p n hn) (.inl rfl)

/-- What is bound on the way to a kid. -/
theorem branch_p (n : LNode) (hn : FitN n) (k : Nat) (hk : k < (edg n).length) : Pure T 64 [.agg (Enc.c n), .int .i64 (k : Nat)] (sl (edg n)[k].2) false := by
  refine ⟨c64, rfl, rfl, ?_⟩
  obtain ⟨_, e2⟩ := edg_get hk
  by_cases h9 : n.op = 9
  · have hb : k < n.branches.length := by
      unfold edg at hk; rw [if_pos h9] at hk; simpa using hk
    rw [dif_pos h9] at e2
    rw [e2]
    simp [c64, h9, evIdx_nat, rd1_ptr, hb]
  · rw [dif_neg h9] at e2
    rw [e2]
    simp [c64, h9, bindsR_r n hn]
theorem branch_r (n : LNode) (hn : FitN n) (k : Nat) (hk : k < (edg n).length) : pureK T 64 (some [.agg [PV.int .i64 n.op, PV.int .i64 n.var, sl n.args, PV.int .i64 n.con, PV.int .i64 n.num, PV.int .i64 n.fn, sl n.more, PV.bool n.take, sl n.branches, PV.int .i64 n.next], .int .i64 (k : Nat)]) false h d r κ s Q = WR T r κ (Fr.put s d (sl (edg n)[k].2)) h Q := pureK_eq (branch_p n hn k hk) (.inr rfl)
end
end Go.Proofs.Ytbnfcdjlbabddaa

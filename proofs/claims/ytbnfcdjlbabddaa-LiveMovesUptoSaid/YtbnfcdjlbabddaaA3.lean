/- What a node uses and binds, and where it leads: the program's. -/
import Derived.Test.YtbnfcdjlbabddaaA2
import Derived.Test.YtbnfcdjlbabddaaEwR
set_option linter.unusedVariables false
set_option linter.unusedSimpArgs false
namespace Go.Proofs.Ytbnfcdjlbabddaa
open Go.Ev

/-- The limits of a node. -/
def FitN (n : LNode) : Prop := n.args.length ≤ 20 ∧ n.more.length ≤ 20 ∧ n.branches.length ≤ 20 ∧ ∀ b ∈ n.branches, b.binds.length ≤ 20
def kids (n : LNode) : List Int := if isNext n.op = true then [n.next] else if n.op = 9 then n.branches.map (·.thn) else []
def binds (n : LNode) : List Int := if isBind n.op = true then [n.var] else if n.op = 9 then n.branches.flatMap (·.binds) else []
def uses (n : LNode) : List Int := if n.op < 0 ∨ 10 ≤ n.op ∨ n.op = 1 then [] else if n.op = 8 then (n.args ++ n.more).filter (0 ≤ ·) else n.args

/-- A list in its stages. -/
theorem stages {α β : Type} (F : List α → List β) (l : List α) : ∃ L : Nat → List β, L = fun k => F (l.take k) := ⟨_, rfl⟩
theorem flatMap_len {α β : Type} {f : α → List β} {m : Nat} : ∀ {l : List α}, (∀ x ∈ l, (f x).length ≤ m) → (l.flatMap f).length ≤ l.length * m
  | [], _ => by simp
  | x :: l, h => by
    have h1 := h x List.mem_cons_self
    have h2 := flatMap_len (f := f) fun y hy => h y (List.mem_cons_of_mem _ hy)
    rw [List.flatMap_cons, List.length_append, List.length_cons, Nat.succ_mul]
    omega

section
variable {o : Bool} {h : AH} {d : Option Nat} {r : List COper} {κ : List KF} {s : Fr} {Q : Fr → AH → Prop}
theorem of_r (op : Int) : pureK T 34 (some [.int .i64 op]) o h d r κ s Q = WR T r κ (Fr.put s d (.tup [.agg (formC op), .bool (decide (0 ≤ op ∧ op < 10))])) h Q := pureK_eq (of_p op) (.inl rfl)

theorem kids_p (n : LNode) (hn : FitN n) : Pure T 42 [.agg (Enc.c n)] (sl (kids n)) true := by
  refine ⟨c42, rfl, rfl, ?_⟩
  obtain ⟨-, -, hb, -⟩ := hn
  simp [c42, of_r, formC]
  refine condS_split (fun h1 => ?_) (fun h1 => ?_)
  · have h9 : ¬ n.op = 9 := by
      intro q; rw [q] at h1; cases h1
    have hk : kids n = [n.next] := by simp [kids, h1]
    simp [h9, hk, evAp, evApp, room, src_psl]
    exact ⟨rfl, rfl⟩
  · simp
    refine condS_split (fun h2 => ?_) (fun h2 => ?_) <;> simp at h2
    · have hk : kids n = n.branches.map (·.thn) := by
        have h1' : isNext 9 = false := by decide
        simp [kids, h2, h1']
      obtain ⟨L, hL⟩ := stages (fun l => l.map LBranch.thn) n.branches
      have L0 : L 0 = [] := by rw [hL]; rfl
      have Ls : ∀ k (hk : k < n.branches.length), L (k + 1) = L k ++ [n.branches[k].thn] := fun k hk => by rw [hL]; simp only; rw [take_succ' hk, List.map_append]; rfl
      have Ln : L n.branches.length = kids n := by rw [hL, hk]; simp
      simp
      refine WK_range tgrow (fun k s' h' => Acc h' (s' 5) 1 ((L k).map Enc.c).flatten k) n.branches.length w42_0 rfl (by decide) (by simp) (by simp) (by omega) (by decide) (fun k s1 h1 s2 j hne => by rw [hne 5 (by decide) (by decide) (by decide)]; exact j) (by simp [L0]; exact Acc.emp) ?_ ?_
      · intro k s' h' hk ja hi hs hg
        have f24 : s' 24 = sl n.branches := (hs 24 (by decide)).trans (by simp)
        have hlw' : h'.lo ≤ h'.nx := hg.low (by simp)
        simp [hi, f24, evIdx_nat, rds_ptr, hk, hlw', -WR_app]
        refine WR_app_acc (m := 1) (ys := [.int .i64 n.branches[k].thn]) (by simpa using ja.push _) (by simp; exact src_psl rfl) (by rfl) (by simp; omega) (room (by simp; omega)) (fun v1 h2 ha1 hm1 => ?_)
        simp [hi, Ls k hk]
        simpa using ha1
      · intro s' h' ja hs hg
        have hlen : n.branches.length = (kids n).length := by rw [hk]; simp
        rw [Ln] at ja
        simp [ja.snap hlen, ja.freshInts]
    · have hk : kids n = [] := by simp [kids, h1, h2]
      rw [hk]
      simp

theorem binds_p (n : LNode) (hn : FitN n) : Pure T 17 [.agg (Enc.c n)] (sl (binds n)) true := by
  refine ⟨c17, rfl, rfl, ?_⟩
  obtain ⟨-, -, hb, hbb⟩ := hn
  simp [c17, of_r, formC]
  refine condS_split (fun h1 => ?_) (fun h1 => ?_)
  · have h9 : ¬ n.op = 9 := by
      intro q; rw [q] at h1; cases h1
    have hk : binds n = [n.var] := by simp [binds, h1]
    simp [h9, hk, evAp, evApp, room, src_psl]
    exact ⟨rfl, rfl⟩
  · simp
    refine condS_split (fun h2 => ?_) (fun h2 => ?_) <;> simp at h2
    · have hk : binds n = n.branches.flatMap (·.binds) := by
        have h1' : isBind 9 = false := by decide
        simp [binds, h2, h1']
      obtain ⟨L, hL⟩ := stages (fun l => l.flatMap LBranch.binds) n.branches
      have L0 : L 0 = [] := by rw [hL]; rfl
      have Ls : ∀ k (hk : k < n.branches.length), L (k + 1) = L k ++ n.branches[k].binds := fun k hk => by rw [hL]; simp only; rw [take_succ' hk, List.flatMap_append]; simp
      have Ln : L n.branches.length = binds n := by rw [hL, hk]; simp
      have Ll : ∀ k, (L k).length ≤ 20 * 20 := fun k => by
        rw [hL]
        refine Nat.le_trans (flatMap_len (m := 20) fun x hx => hbb x (List.take_subset _ _ hx)) (Nat.mul_le_mul_right _ ?_)
        rw [List.length_take]; omega
      simp
      refine WK_range tgrow (fun k s' h' => Acc h' (s' 5) 1 ((L k).map Enc.c).flatten (L k).length) n.branches.length w17_0 rfl (by decide) (by simp) (by simp) (by omega) (by decide) (fun k s1 h1 s2 j hne => by rw [hne 5 (by decide) (by decide) (by decide)]; exact j) (by simp [L0]; exact Acc.emp) ?_ ?_
      · intro k s' h' hk ja hi hs hg
        have f24 : s' 24 = sl n.branches := (hs 24 (by decide)).trans (by simp)
        have hlw' : h'.lo ≤ h'.nx := hg.low (by simp)
        have l1 := Ll k
        have l2 := hbb _ (List.getElem_mem hk)
        simp [hi, f24, evIdx_nat, rds_ptr, hk, hlw', -WR_app]
        refine WR_app_acc (m := n.branches[k].binds.length) (ys := (n.branches[k].binds.map Enc.c).flatten) (by simpa using ja.push _) (by simp) (by simpa using flat_len' n.branches[k].binds) (by simp; omega) (room (by simp; omega)) (fun v1 h2 ha1 hm1 => ?_)
        simp [hi, Ls k hk, -flatInts_append]
        simpa [-flatInts_append] using ha1
      · intro s' h' ja hs hg
        rw [Ln] at ja
        simp [ja.snap rfl, ja.freshInts]
    · have hk : binds n = [] := by simp [binds, h1, h2]
      rw [hk]
      simp

theorem acc_rf {v : PV} {z : Nat} {cs : List PV} {n k : Nat} (a : Acc h v z cs n) (hk : k < n) : ∃ i, v = .rf z i 0 n ∧ h.row i = some cs := by
  obtain ⟨_, ⟨rfl, rfl⟩ | ⟨i, rfl, hr, _⟩⟩ := a
  · omega
  · exact ⟨i, rfl, hr⟩
theorem ints_get {l : List Int} {k : Nat} (hk : k < l.length) : (l.map Enc.c).flatten[k]? = some (.int .i64 l[k]) := by
  rw [flat_ints]; simp [hk]

theorem uses_p (n : LNode) (hn : FitN n) : Pure T 16 [.agg (Enc.c n)] (sl (uses n)) false := by
  refine ⟨c16, rfl, rfl, ?_⟩
  obtain ⟨ha, hm, -, -⟩ := hn
  simp [c16, of_r, formC]
  have hargs : (0 ≤ n.op ∧ n.op < 10) → (fArgs n.op = 0 ↔ n.op = 1) := fun q => by
    unfold fArgs; (repeat' split) <;> omega
  refine gdS_split (fun h1 => ?_) (fun h1 => ?_) <;> simp at h1
  · simp
    refine condS_split (fun h2 => ?_) (fun h2 => ?_) <;> simp at h2
    · have : uses n = [] := by
        have := (hargs h1).1 h2
        simp [uses, this]
      simp [this]
    · have h3 : ¬ n.op = 1 := fun q => h2 ((hargs h1).2 q)
      simp
      refine condS_split (fun h4 => ?_) (fun h4 => ?_) <;> simp at h4
      · have hu : uses n = n.args := by
          unfold uses
          rw [if_neg (by omega), if_neg h4]
        simp [hu, primCloneI_eq (z := 1) (b := 8) (l := n.args) (snap_sl _ _ _ (by decide)) rfl flat_int (room (by omega))]
      · have hu : uses n = (n.args ++ n.more).filter (0 ≤ ·) := by
          unfold uses
          rw [if_neg (by omega), if_pos h4]
        simp
        refine opH_cloneO (src_sl rfl) (flat_len' _) (by decide) (by simp) (room (by omega)) (fun v1 h1 ha1 hm1 => ?_)
        have g1 := hm1.grow
        simp at g1
        simp [-WR_app]
        refine WR_app_acc (m := n.more.length) (ys := (n.more.map Enc.c).flatten) (by simpa using ha1) (by simp) (by simpa using flat_len' n.more) (by omega) (room (by omega)) (fun v2 h2 ha2 hm2 => ?_)
        simp at hm2
        have g2 := hm2.grow
        have ha2' : Acc h2 v2 1 ((n.args ++ n.more).map Enc.c).flatten (n.args ++ n.more).length := by simpa [-flatInts_append] using ha2
        have hml : (n.args ++ n.more).length ≤ 40 := by simp; omega
        clear ha2
        simp [ha2'.len]
        generalize hM : n.args ++ n.more = M at *
        obtain ⟨L, hL⟩ := stages (fun l => l.filter (0 ≤ ·)) M
        have L0 : L 0 = [] := by rw [hL]; rfl
        have Ls : ∀ k (hk : k < M.length), L (k + 1) = if 0 ≤ M[k] then L k ++ [M[k]] else L k := fun k hk => by
          rw [hL]; simp only; rw [take_succ' hk, List.filter_append]
          split
          · rename_i q; simp [q]
          · rename_i q; simp [q]
        have Ln : L M.length = uses n := by rw [hL, hu]; simp
        have Ll : ∀ k, (L k).length ≤ 40 := fun k => by
          rw [hL]
          refine Nat.le_trans (List.length_filter_le _ _) ?_
          rw [List.length_take]; omega
        refine WK_range tgrow (fun k s' h' => Acc h' v2 1 (M.map Enc.c).flatten M.length ∧ Acc h' (s' 5) 1 ((L k).map Enc.c).flatten (L k).length ∧ Apart v2 (s' 5)) M.length w16_0 rfl (by decide) (by simp) (by simp [← hM]) (by omega) (by decide) (fun k s1 h1 s2 j hne => by rw [hne 5 (by decide) (by decide) (by decide)]; exact j) (by simp [L0]; exact ⟨ha2', Acc.emp, Apart.emp' _⟩) ?_ ?_
        · rintro k s' h' hk ⟨jm, ja, jap⟩ hi hs hg
          have f32 : s' 32 = v2 := (hs 32 (by decide)).trans (by simp)
          have hlw' : h'.lo ≤ h'.nx := hg.low (by omega)
          have l1 := Ll k
          obtain ⟨i, hv, hr⟩ := acc_rf jm hk
          simp [hi, f32]
          rw [hv]
          simp [evIdx_rf hk, hr, ints_get hk]
          refine condS_split (fun hc => ?_) (fun hc => ?_) <;> simp at hc
          · simp [-WR_app]
            refine WR_app_acc (m := 1) (ys := [.int .i64 M[k]]) (by simpa using ja) (by simp; exact src_psl rfl) (by rfl) hlw' (room (by omega)) (fun v3 h3 ha3 hm3 => ?_)
            simp at hm3
            simp [hi, Ls k hk, hc]
            rw [← hv]
            exact ⟨jm.mv hm3 jap, by simpa using ha3, jap.mv hm3 jm⟩
          · simp [hi, Ls k hk, hc]
            rw [if_neg (by omega), ← hv]
            exact ⟨jm, ja, jap⟩
        · rintro s' h' ⟨_, ja, _⟩ hs hg
          rw [Ln] at ja
          simp [ja.snap rfl]
  · have : uses n = [] := by
      unfold uses; rw [if_pos (by omega)]
    simp [this]
theorem kids_r (n : LNode) (hn : FitN n) : pureK T 42 (some [.agg [PV.int .i64 n.op, PV.int .i64 n.var, sl n.args, PV.int .i64 n.con, PV.int .i64 n.num, PV.int .i64 n.fn, sl n.more, PV.bool n.take, sl n.branches, PV.int .i64 n.next]]) o h d r κ s Q = WR T r κ (Fr.put s d (sl (kids n))) h Q := pureK_eq (kids_p n hn) (.inl rfl)
theorem binds_r (n : LNode) (hn : FitN n) : pureK T 17 (some [.agg [PV.int .i64 n.op, PV.int .i64 n.var, sl n.args, PV.int .i64 n.con, PV.int .i64 n.num, PV.int .i64 n.fn, sl n.more, PV.bool n.take, sl n.branches, PV.int .i64 n.next]]) o h d r κ s Q = WR T r κ (Fr.put s d (sl (binds n))) h Q := pureK_eq (binds_p n hn) (.inl rfl)
theorem uses_r (n : LNode) (hn : FitN n) : pureK T 16 (some [.agg [PV.int .i64 n.op, PV.int .i64 n.var, sl n.args, PV.int .i64 n.con, PV.int .i64 n.num, PV.int .i64 n.fn, sl n.more, PV.bool n.take, sl n.branches, PV.int .i64 n.next]]) false h d r κ s Q = WR T r κ (Fr.put s d (sl (uses n))) h Q := pureK_eq (uses_p n hn) (.inr rfl)
end
end Go.Proofs.Ytbnfcdjlbabddaa

/- The reference's 'Preorder', 'Reached' and 'Loops'. -/
import Derived.Test.YtpdgjdnipkmocaaF5
set_option linter.unusedVariables false
set_option linter.unusedSimpArgs false
namespace Go.Proofs.Ytpdgjdnipkmocaa
open Go.Ev

theorem laid_In {p : LProc} (h : laidP p) : In p := by
  intro a h0 h1 x hx
  have hb : a.toNat < p.blocks.length := by omega
  simp only [succ, List.getElem?_eq_getElem hb] at hx
  obtain ⟨y, q1, _, _, q4⟩ := h.2 _ (List.getElem_mem hb)
  simp only [next, q1] at hx
  split at hx
  · exact q4 x hx
  · cases hx

noncomputable def order (p : LProc) : List Int := if laid p = true ∧ p.extern = false then visit (succ p) (p.blocks.length + 1) [] 0 else []

theorem Nums.nil (N : Nat) : Nums N [] := ⟨List.nodup_nil, fun x hx => by cases hx⟩

theorem laid_true {p : LProc} (h : laid p = true) : laidP p := by simpa [laid] using h
theorem laid_pos {p : LProc} (h : laid p = true) (he : p.extern = false) : 0 < p.blocks.length := by
  have := (laid_true h).1
  apply List.length_pos_iff.2
  intro q
  rw [he] at this
  simpa using this.2 q

theorem order_nums (p : LProc) : Nums p.blocks.length (order p) := by
  unfold order
  split
  · rename_i h
    have := laid_pos h.1 h.2
    exact (visit_props (laid_In (laid_true h.1)) _ _ _ (Nums.nil _) (by omega) (by omega)).1
  · exact Nums.nil _

section
variable {o : Bool} {h : AH} {d : Option Nat} {r : List COper} {κ : List KF} {s : Fr} {Q : Fr → AH → Prop}

theorem preorderR_p (p : LProc) (hp : FitP p) : Pure T 34 [.agg (Enc.c p)] (sl (order p)) true := by
  refine ⟨c34, rfl, rfl, ?_⟩
  simp [c34, laidR_r p hp]
  have no : ¬ (laid p = true ∧ p.extern = false) → order p = [] := fun q => by simp [order, q]
  refine gdS_split (fun hc1 => ?_) (fun hc1 => ?_) <;> simp at hc1
  case refine_2 =>
    simp [hc1, no]
  simp [hc1]
  refine condS_split (fun hc => ?_) (fun hc => ?_)
  · simp [no, hc]
  simp
  have hl := laid_pos hc1 hc
  refine visitR_c p hp (laid_In (laid_true hc1)) (p.blocks.length + 1) [] 0 .emp (Nums.nil _) (by omega) (by omega) (by simp) Acc.emp (Nat.le_refl _) (fun v h' ha hm => ?_)
  have : order p = visit (succ p) (p.blocks.length + 1) [] 0 := by simp [order, hc1, hc]
  rw [← this] at ha
  simp [ha.snap rfl, ha.freshInts]
theorem preorderR_r (p : LProc) (hp : FitP p) : pureK T 34 (some [.agg [PV.str p.name, sl p.params, PV.int .i64 p.result, sl p.sig.params, PV.str p.sig.base, sl p.sig.result, PV.str p.sig.rest, sl p.blocks, PV.bool p.extern]]) o h d r κ s Q = WR T r κ (Fr.put s d (sl (order p))) h Q := pureK_eq (preorderR_p p hp) (.inl rfl)

/-- The numbers below n. -/
def nums (n : Nat) : List Int := (List.range n).map fun i : Nat => (i : Int)
theorem nums_succ (n : Nat) : nums (n + 1) = nums n ++ [(n : Int)] := by simp [nums, List.range_succ]
theorem nums_len (n : Nat) : (nums n).length = n := by simp [nums]

noncomputable def reached (p : LProc) : List Int := (nums p.blocks.length).filter (· ∈ order p)

theorem reachedR_p (p : LProc) (hp : FitP p) : Pure T 16 [.agg (Enc.c p)] (sl (reached p)) true := by
  refine ⟨c16, rfl, rfl, ?_⟩
  have hp1 := hp.1
  have hol := (order_nums p).length
  simp [c16, preorderR_r p hp]
  refine WK_loop tgrow (fun k s' h' => s' 5 = .int .i64 (k : Nat) ∧ Acc h' (s' 3) 1 (((nums k).filter (· ∈ order p)).map Enc.c).flatten ((nums k).filter (· ∈ order p)).length) p.blocks.length w16_0 (by decide) (by simp; exact Acc.emp) ?_
  rintro k s' h' hk ⟨e5, ja⟩ hs hg
  have f1 : s' 1 = .pi (Enc.c p) := (hs 1 (by decide)).trans (by simp)
  have f4 : s' 4 = sl (order p) := (hs 4 (by decide)).trans (by simp)
  simp [c16_0, e5, f1]
  have hfl : ((nums k).filter (· ∈ order p)).length ≤ 1000 := by
    have := List.length_filter_le (· ∈ order p) (nums k)
    rw [nums_len] at this
    omega
  refine condS_split (fun hkl => ?_) (fun hkl => ?_) <;> simp at hkl
  · have hk2 : k < 9223372036854775807 := by omega
    simp [e5, f4, in_r (order p) k (by omega)]
    refine condS_split (fun hc => ?_) (fun hc => ?_) <;> simp at hc
    · simp [e5, -WR_app]
      refine WR_app_acc (m := 1) (ys := [.int .i64 (k : Nat)]) (by simpa using ja) (by simp; exact src_psl rfl) (by rfl) (hg.low (by simp)) (room (by simp; omega)) (fun v1 h2 ha1 hm1 => ?_)
      simp [e5, hk2, hkl, nums_succ, List.filter_append, hc]
      simpa using ha1
    · simp [e5, hk2, hkl, nums_succ, List.filter_append, hc]
      simpa using ja
  · have hkn : k = p.blocks.length := by omega
    rw [hkn] at ja
    have ja' : Acc h' (s' 3) 1 ((reached p).map Enc.c).flatten (reached p).length := ja
    simp [ja'.snap rfl, ja'.freshInts]
theorem reachedR_r (p : LProc) (hp : FitP p) : pureK T 16 (some [.agg [PV.str p.name, sl p.params, PV.int .i64 p.result, sl p.sig.params, PV.str p.sig.base, sl p.sig.result, PV.str p.sig.rest, sl p.blocks, PV.bool p.extern]]) o h d r κ s Q = WR T r κ (Fr.put s d (sl (reached p))) h Q := pureK_eq (reachedR_p p hp) (.inl rfl)

/-- What is visited from some blocks. -/
def fromS (p : LProc) (xs : List Int) : List Int := xs.foldl (visit (succ p) (p.blocks.length + 1)) []
noncomputable def loops (p : LProc) : List Int := (reached p).filter fun b => b ∈ fromS p (succ p b)

theorem reached_laid {p : LProc} {x : Int} (hx : x ∈ reached p) : laidP p := by
  have : x ∈ order p := by simpa using (List.mem_filter.1 hx).2
  unfold order at this
  split at this
  · rename_i q; exact laid_true q.1
  · cases this
theorem reached_bd {p : LProc} {x : Int} (hx : x ∈ reached p) : 0 ≤ x ∧ x < (p.blocks.length : Int) := by
  have : x ∈ order p := by simpa using (List.mem_filter.1 hx).2
  exact (order_nums p).2 x this
theorem reached_len (p : LProc) : (reached p).length ≤ p.blocks.length := by
  have := List.length_filter_le (· ∈ order p) (nums p.blocks.length)
  rw [nums_len] at this
  exact this

theorem loopsR_p (p : LProc) (hp : FitP p) : Pure T 18 [.agg (Enc.c p)] (sl (loops p)) true := by
  refine ⟨c18, rfl, rfl, ?_⟩
  have hp1 := hp.1
  have hrl := reached_len p
  simp [c18, reachedR_r p hp]
  refine WK_loop tgrow (fun k s' h' => s' 5 = .int .i64 (k : Nat) ∧ Acc h' (s' 3) 1 ((((reached p).take k).filter (fun b => b ∈ fromS p (succ p b))).map Enc.c).flatten (((reached p).take k).filter (fun b => b ∈ fromS p (succ p b))).length) (reached p).length w18_0 (by decide) (by simp; exact Acc.emp) ?_
  rintro k s' h' hk ⟨e5, ja⟩ hs hg
  have f1 : s' 1 = .pi (Enc.c p) := (hs 1 (by decide)).trans (by simp)
  have f4 : s' 4 = sl (reached p) := (hs 4 (by decide)).trans (by simp)
  have hlo := hg.low (by simp)
  simp [c18_0, e5, f4]
  refine condS_split (fun hkl => ?_) (fun hkl => ?_) <;> simp at hkl
  case refine_2 =>
    have hkn : k = (reached p).length := by omega
    rw [hkn, List.take_length] at ja
    have ja' : Acc h' (s' 3) 1 ((loops p).map Enc.c).flatten (loops p).length := ja
    simp [ja'.snap rfl, ja'.freshInts]
  have hx := reached_bd (List.getElem_mem hkl)
  have hlaid := reached_laid (List.getElem_mem hkl)
  generalize hbx : (reached p)[k] = b at hx hlaid
  have hb : b.toNat < p.blocks.length := by omega
  have hsucc : succ p b = Go.Proofs.Ytpdgjdnipkmocaa.next p.blocks[b.toNat] := by simp [succ, hb]
  have hsl := jump_len hp b
  have hbds := laid_In hlaid b hx.1 hx.2
  simp [e5, f4, f1, evIdx_nat, rd1_ptr, hkl, hbx, evIdx_sl, hx.1, hb, rds_ptr, nextR_r p.blocks[b.toNat] (hp.2 _ (List.getElem_mem hb))]
  rw [← hsucc]
  have fp := fun k => fold_props (laid_In hlaid) (p.blocks.length + 1) ((succ p b).take k) [] (fun x hx => hbds x (List.mem_of_mem_take hx)) (Nums.nil _)
  refine WK_loop tgrow (fun k s2 h2 => s2 8 = .int .i64 (k : Nat) ∧ Acc h2 (s2 6) 1 ((fromS p ((succ p b).take k)).map Enc.c).flatten (fromS p ((succ p b).take k)).length ∧ Mv h' .emp h2 (s2 6)) (succ p b).length w18_1 (by decide) (by simp; exact ⟨Acc.emp, Mv.refl _ _⟩) ?_
  rintro k2 s2 h2 hk2 ⟨e8, ja2, jm2⟩ hs2 hg2
  have g1 : s2 1 = .pi (Enc.c p) := (hs2 1 (by decide)).trans (by simp [f1])
  have g7 : s2 7 = sl (succ p b) := (hs2 7 (by decide)).trans (by simp)
  have hlk := (fp k2).1.length
  simp [c18_1, e8, g7]
  refine condS_split (fun hkl2 => ?_) (fun hkl2 => ?_) <;> simp at hkl2
  · simp [e8, g7, g1, evIdx_nat, rd1_ptr, hkl2]
    have hb2 := hbds _ (List.getElem_mem hkl2)
    refine visitR_c p hp (laid_In hlaid) (p.blocks.length + 1) _ _ _ (fp k2).1 hb2.1 hb2.2 (by omega) ja2 (by have := jm2.grow; omega) (fun v h3 ha3 hm3 => ?_)
    have hk3 : k2 < 9223372036854775807 := by omega
    have := foldl_take_succ (visit (succ p) (p.blocks.length + 1)) [] (succ p b) k2 hkl2
    rw [← this] at ha3
    simp [e8, hk3, hkl2]
    exact ⟨ha3, jm2.trans hm3⟩
  have hkn : k2 = (succ p b).length := by omega
  rw [hkn, List.take_length] at ja2
  have g3 : s2 3 = s' 3 := (hs2 3 (by decide)).trans (by simp)
  have g4 : s2 4 = sl (reached p) := (hs2 4 (by decide)).trans (by simp [f4])
  have g5 : s2 5 = .int .i64 (k : Nat) := (hs2 5 (by decide)).trans (by simp [e5])
  have ja3 := ja.mv jm2 (fun _ _ _ _ _ _ _ _ e => by cases e)
  rw [← g3] at ja3
  have hfn : (fromS p (succ p b)).length ≤ 1000 := by
    have := (fp (succ p b).length).1.length
    rw [List.take_length] at this
    exact Nat.le_trans this hp1
  have hfl : (((reached p).take k).filter (fun b => b ∈ fromS p (succ p b))).length ≤ 1000 := by
    have := List.length_filter_le (fun b => decide (b ∈ fromS p (succ p b))) ((reached p).take k)
    rw [List.length_take] at this
    omega
  have hk4 : k < 9223372036854775807 := by omega
  simp [g4, g5, evIdx_nat, rd1_ptr, hkl, hbx, ja2.snap rfl, in_r (fromS p (succ p b)) b (by omega)]
  refine condS_split (fun hc => ?_) (fun hc => ?_) <;> simp at hc
  · simp [g4, g5, evIdx_nat, rd1_ptr, hkl, hbx, -WR_app]
    refine WR_app_acc (m := 1) (ys := [.int .i64 b]) (by simpa using ja3) (by simp; exact src_psl rfl) (by rfl) (by have := jm2.grow; omega) (room (by simp; omega)) (fun v1 h4 ha1 hm1 => ?_)
    simp [g5, hk4, hkl, take_succ' hkl, List.filter_append, hbx, hc, -List.take_append_getElem]
    simpa using ha1
  · simp [g5, hk4, hkl, take_succ' hkl, List.filter_append, hbx, hc, -List.take_append_getElem]
    simpa using ja3
theorem loopsR_r (p : LProc) (hp : FitP p) : pureK T 18 (some [.agg [PV.str p.name, sl p.params, PV.int .i64 p.result, sl p.sig.params, PV.str p.sig.base, sl p.sig.result, PV.str p.sig.rest, sl p.blocks, PV.bool p.extern]]) o h d r κ s Q = WR T r κ (Fr.put s d (sl (loops p))) h Q := pureK_eq (loopsR_p p hp) (.inl rfl)
end
end Go.Proofs.Ytpdgjdnipkmocaa

/- The small functions of 'Normal'. -/
import Derived.Test.YtbnfcdjlbabddaaM3
set_option linter.unusedVariables false
set_option linter.unusedSimpArgs false
namespace Go.Proofs.Ytbnfcdjlbabddaa
open Go.Ev

def ofL (m : List Int) (v : Int) : Int := if 0 ≤ v ∧ v < (m.length : Int) then (m[v.toNat]?).getD 0 else v
theorem ofL_map (f : LFun) (vs : List Int) (v : Int) : ofL (mapV f vs) v = reV f vs v := by
  have hl : (mapV f vs).length = f.vars.length := by simp [mapV, nums_len]
  unfold ofL reV
  rw [hl]
  split
  · rename_i h
    have : v.toNat < f.vars.length := by omega
    simp [mapV, nums, this, Int.max_eq_left h.1]
  · rfl
section
variable {o : Bool} {h : AH} {d : Option Nat} {r : List COper} {κ : List KF} {s : Fr} {Q : Fr → AH → Prop}
theorem of41_p (m l : List Int) (hm : m.length ≤ 1000000) (hl : l.length ≤ 1000000) : Pure T 41 [sl m, sl l] (sl (l.map (ofL m))) true := by
  refine ⟨c41, rfl, rfl, ?_⟩
  obtain ⟨L, hL⟩ := stages (fun z => z.map (ofL m)) l
  have L0 : L 0 = [] := by rw [hL]; rfl
  have Ls : ∀ k (hk : k < l.length), L (k + 1) = L k ++ [ofL m l[k]] := fun k hk => by rw [hL]; simp only; rw [take_succ' hk, List.map_append]; rfl
  have Ln : L l.length = l.map (ofL m) := by rw [hL]; simp
  simp [c41]
  refine WK_range tgrow (fun k s' h' => Acc h' (s' 5) 1 ((L k).map Enc.c).flatten k) l.length w41_0 rfl (by decide) (by simp) (by simp) (by omega) (by decide) (fun k s1 h1 s2 j hne => by rw [hne 5 (by decide) (by decide) (by decide)]; exact j) (by simp [L0]; exact Acc.emp) ?_ ?_
  · intro k s' h' hk ja hi hs hg
    have f0 : s' 0 = sl m := (hs 0 (by decide)).trans (by simp)
    have f8 : s' 8 = sl l := (hs 8 (by decide)).trans (by simp)
    have hlw' : h'.lo ≤ h'.nx := hg.low (by simp)
    have fin : ∀ x : Int, x = ofL m l[k] → ∀ (w : PV) (h2 : AH), Acc h2 w 1 (((L k).map Enc.c).flatten ++ [.int .i64 x]) (k + 1) → Acc h2 w 1 ((L (k + 1)).map Enc.c).flatten (k + 1) := fun x hx w h2 a => by
      rw [Ls k hk, ← hx]; simpa using a
    by_cases h0 : 0 ≤ l[k]
    · by_cases h1 : l[k] < (m.length : Int)
      · have h2 : l[k].toNat < m.length := by omega
        have e : m[l[k].toNat] = ofL m l[k] := by unfold ofL; rw [if_pos ⟨h0, h1⟩]; simp [h2]
        simp [hi, f0, f8, evIdx_nat, rd1_ptr, hk, h0, h1, evIdx_sl, h2, -WR_app]
        refine WR_app_acc (m := 1) (ys := [.int .i64 m[l[k].toNat]]) (by simpa using ja) (by simp; exact src_psl rfl) (by rfl) hlw' (room (by omega)) (fun v1 h2 ha1 hm1 => ?_)
        simp [hi]
        exact fin _ e _ _ ha1
      · have e : l[k] = ofL m l[k] := by unfold ofL; rw [if_neg fun q => h1 q.2]
        simp [hi, f0, f8, evIdx_nat, rd1_ptr, hk, h0, h1, -WR_app]
        refine WR_app_acc (m := 1) (ys := [.int .i64 l[k]]) (by simpa using ja) (by simp; exact src_psl rfl) (by rfl) hlw' (room (by omega)) (fun v1 h2 ha1 hm1 => ?_)
        simp [hi]
        exact fin _ e _ _ ha1
    · have e : l[k] = ofL m l[k] := by unfold ofL; rw [if_neg fun q => h0 q.1]
      simp [hi, f0, f8, evIdx_nat, rd1_ptr, hk, h0, -WR_app]
      refine WR_app_acc (m := 1) (ys := [.int .i64 l[k]]) (by simpa using ja) (by simp; exact src_psl rfl) (by rfl) hlw' (room (by omega)) (fun v1 h2 ha1 hm1 => ?_)
      simp [hi]
      exact fin _ e _ _ ha1
  · intro s' h' ja hs hg
    have hlen : l.length = (l.map (ofL m)).length := by simp
    rw [Ln] at ja
    simp [ja.snap hlen, ja.freshInts]
theorem of41_r (m l : List Int) (hm : m.length ≤ 1000000) (hl : l.length ≤ 1000000) : pureK T 41 (some [sl m, sl l]) o h d r κ s Q = WR T r κ (Fr.put s d (sl (l.map (ofL m)))) h Q := pureK_eq (of41_p m l hm hl) (.inl rfl)

theorem cloned_p (B : List LBranch) (hB : B.length ≤ 1000) (hb : ∀ b ∈ B, b.binds.length ≤ 1000) : Pure T 43 [sl B] (sl B) false := by
  refine ⟨c43, rfl, rfl, ?_⟩
  simp [c43]
  refine WK_range tgrow (fun k s' h' => Acc h' (s' 3) 2 ((B.take k).map Enc.c).flatten k) B.length w43_0 rfl (by decide) (by simp) (by simp) (by omega) (by decide) (fun k s1 h1 s2 j hne => by rw [hne 3 (by decide) (by decide) (by decide)]; exact j) (by simp; exact Acc.emp) ?_ ?_
  · intro k s' h' hk ja hi hs hg
    have f6 : s' 6 = sl B := (hs 6 (by decide)).trans (by simp)
    have hlw' : h'.lo ≤ h'.nx := hg.low (by simp)
    have hbk := hb _ (List.getElem_mem hk)
    simp [hi, f6, evIdx_nat, rds_ptr, hk, hlw', primCloneI_eq (z := 1) (b := 8) (l := B[k].binds) (snap_sl _ _ _ (by decide)) rfl flat_int (room (by omega)), -WR_app]
    refine WR_app_acc (cs := ((B.take k).map Enc.c).flatten) (n := k) (m := 1) (ys := Enc.c B[k]) (by simpa using ja.push _) (by simp; exact src_psl rfl) (by rfl) (by simp; omega) (room (by omega)) (fun v1 h2 ha1 hm1 => ?_)
    simp [hi]
    have e : ((B.take (k + 1)).map Enc.c).flatten = ((B.take k).map Enc.c).flatten ++ Enc.c B[k] := by
      rw [take_succ' hk]
      simp only [List.map_append, List.flatten_append, List.map_cons, List.map_nil, List.flatten_cons, List.flatten_nil, List.append_nil]
    rw [← List.map_take, e]
    exact ha1
  · intro s' h' ja hs hg
    rw [List.take_length] at ja
    simp [ja.snap rfl]
end
end Go.Proofs.Ytbnfcdjlbabddaa

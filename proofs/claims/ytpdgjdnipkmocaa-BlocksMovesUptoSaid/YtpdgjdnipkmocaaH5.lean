/- The loops of BlocksMoves: the new numbers, the moved blocks. -/
import Derived.Test.YtpdgjdnipkmocaaH4
set_option linter.unusedVariables false
set_option linter.unusedSimpArgs false
namespace Go.Proofs.Ytpdgjdnipkmocaa
open Go.Ev

/-- Only one block has changed. -/
def Oth (h h' : AH) (it : Nat) : Prop := h'.nx = h.nx ∧ h'.lo = h.lo ∧ ∀ i, i ≠ it → h'.blk i = h.blk i
theorem Oth.refl (h : AH) (it : Nat) : Oth h h it := ⟨rfl, rfl, fun _ _ => rfl⟩
theorem Oth.set {h h' : AH} {it : Nat} (o : Oth h h' it) (B : Blk) : Oth h (h'.set it B) it := ⟨o.1, o.2.1, fun i hi => by rw [blk_set, if_neg hi]; exact o.2.2 i hi⟩

section
variable {κ : List KF} {s : Fr} {h : AH} {Q : Fr → AH → Prop}

theorem mv_fill (N it : Nat) (hN : N ≤ 1000) (e7 : s 7 = .rf 1 it 0 N) (e47 : s 47 = .int .i64 (N : Int)) (e48 : s 48 = .int .i64 0) (hr : h.row it = some ((List.replicate N (0 : Int)).map (PV.int .i64))) (hlo : h.lo ≤ it)
    (next : ∀ s' h', (∀ t, t ∉ w9_0 → s' t = s t) → h'.row it = some ((nums N).map (PV.int .i64)) → Oth h h' it → WK T .skip κ s' h' Q) : WK T (.loop c9_0) (.block 0 :: κ) s h Q := by
  refine WK_range tgrow (fun (k : Nat) (_ : Fr) (h' : AH) => h'.row it = some ((nums k ++ List.replicate (N - k) (0 : Int)).map (PV.int IntKind.i64)) ∧ Oth h h' it) N w9_0 rfl (by decide) e48 e47 (by omega) (by decide) (fun _ _ _ _ j _ => j) ⟨by simpa [nums] using hr, Oth.refl _ _⟩ ?_ ?_
  · rintro k s' h' hk ⟨ja, jb⟩ hi hs hg
    have f7 : s' 7 = .rf 1 it 0 N := (hs 7 (by decide)).trans e7
    have hlo' : h'.lo ≤ it := by have := jb.2.1; omega
    have hset : (((nums k ++ List.replicate (N - k) (0 : Int)).map (PV.int .i64))).set k (.int .i64 (k : Nat)) = (nums (k + 1) ++ List.replicate (N - (k + 1)) (0 : Int)).map (PV.int .i64) := by
      rw [← List.map_set, List.set_append_right _ _ (by rw [nums_len]; omega), nums_len, Nat.sub_self, nums_succ]
      have : N - k = (N - (k + 1)) + 1 := by omega
      rw [this, List.replicate_succ, List.set_cons_zero, List.append_assoc]
      rfl
    have hlt : k < ((nums k ++ List.replicate (N - k) (0 : Int)).map (PV.int .i64)).length := by simp [nums_len]; omega
    generalize (nums k ++ List.replicate (N - k) (0 : Int)).map (PV.int .i64) = X at *
    generalize hY : (nums (k + 1) ++ List.replicate (N - (k + 1)) (0 : Int)).map (PV.int .i64) = Y at *
    simp [hi, f7, evIdx_rf hk, hlo', ja, hlt, hset]
    exact jb.set _
  · rintro s' h' ⟨ja, jb⟩ hs hg
    exact next s' h' hs (by simpa using ja) jb

theorem nums_ren {N : Nat} : Ren N (nums N) := by
  refine ⟨nums_len N, (nums_sorted N).imp (by intro a b h; omega), fun x hx => ?_, fun hN => ?_⟩
  · obtain ⟨n, hn, rfl⟩ := List.mem_map.1 hx
    have := List.mem_range.1 hn
    omega
  · simp [ren, nums, hN]

theorem Ren.swap {N : Nat} {t : List Int} (r : Ren N t) {i j : Nat} (hi : i < t.length) (hj : j < t.length) (hi0 : 0 < i) (hj0 : 0 < j) : Ren N ((t.set i t[j]).set j t[i]) := by
  have hlen : ((t.set i t[j]).set j t[i]).length = t.length := by simp
  have hb : ∀ k, k < t.length → (if k = j then i else if k = i then j else k) < t.length := by
    intro k hk
    split
    · exact hi
    · split
      · exact hj
      · exact hk
  have hget : ∀ k (hk : k < ((t.set i t[j]).set j t[i]).length), ((t.set i t[j]).set j t[i])[k] = t[if k = j then i else if k = i then j else k]'(hb k (hlen ▸ hk)) := by
    intro k hk
    rw [List.getElem_set]
    by_cases h1 : j = k
    · subst h1; simp
    · rw [if_neg h1, List.getElem_set]
      by_cases h2 : i = k
      · subst h2; simp [Ne.symm h1]
      · simp [h2, Ne.symm h1, Ne.symm h2]
  refine ⟨by rw [hlen, r.len], ?_, fun x hx => ?_, fun hN => ?_⟩
  · rw [List.nodup_iff_pairwise_ne, List.pairwise_iff_getElem]
    intro a b ha hb hab
    rw [hget a ha, hget b hb]
    intro e
    have := (List.getElem_inj r.nodup).1 e
    split at this <;> split at this <;> (try split at this) <;> (try split at this) <;> omega
  · obtain ⟨k, hk, rfl⟩ := List.getElem_of_mem hx
    rw [hget k hk]
    exact r.bd _ (List.getElem_mem _)
  · have h0 := r.zero hN
    have hl0 : 0 < t.length := by rw [r.len]; exact hN
    rw [ren_at (by simpa using hl0)] at h0
    rw [ren_at (by rw [hlen]; simpa using hl0)]
    simp only [Int.toNat_zero] at h0 ⊢
    rw [hget 0 (by rw [hlen]; exact hl0)]
    have e1 : ¬ 0 = j := by omega
    have e2 : ¬ 0 = i := by omega
    simp only [e1, e2, if_false]
    exact h0

theorem mv_swap (N it : Nat) (hN : N ≤ 1000) (l : List Int) (hl : l.length ≤ 30) (e7 : s 7 = .rf 1 it 0 N) (e56 : s 56 = sl l) (e57 : s 57 = .int .i64 (l.length : Int)) (e58 : s 58 = .int .i64 0) (hr : h.row it = some ((nums N).map (PV.int .i64))) (hlo : h.lo ≤ it)
    (next : ∀ s' h' t, (∀ t, t ∉ w9_1 → s' t = s t) → Ren N t → h'.row it = some (t.map (PV.int .i64)) → Oth h h' it → WK T .skip κ s' h' Q) : WK T (.loop c9_1) (.block 2 :: κ) s h Q := by
  refine WK_range tgrow (fun (_ : Nat) (_ : Fr) (h' : AH) => ∃ t, Ren N t ∧ h'.row it = some (t.map (PV.int IntKind.i64)) ∧ Oth h h' it) l.length w9_1 rfl (by decide) e58 e57 (by omega) (by decide) (fun _ _ _ _ j _ => j) ⟨nums N, nums_ren, hr, Oth.refl _ _⟩ ?_ ?_
  · rintro k s' h' hk ⟨t, rt, ja, jb⟩ hi hs hg
    have f7 : s' 7 = .rf 1 it 0 N := (hs 7 (by decide)).trans e7
    have f56 : s' 56 = sl l := (hs 56 (by decide)).trans e56
    have hlo' : h'.lo ≤ it := by have := jb.2.1; omega
    have hk2 : k < 9223372036854775807 := by omega
    simp [hi, f56, f7, evIdx_nat, rd1_ptr, hk, hk2]
    generalize hx : l[k] = x
    by_cases c1 : k + 1 < N
    · have c1' : (k : Int) + 1 < (N : Int) := by omega
      by_cases c2 : 0 < x
      · by_cases c3 : x < (N : Int)
        · have b1 : k + 1 < t.length := by rw [rt.len]; exact c1
          have b2 : x.toNat < t.length := by rw [rt.len]; omega
          have b3 : x.toNat < N := by omega
          have x0 : 0 ≤ x := by omega
          have hg1 : (t.map (PV.int .i64))[x.toNat]? = some (.int .i64 t[x.toNat]) := by rw [List.getElem?_map, List.getElem?_eq_getElem b2]; rfl
          have hg2 : (t.map (PV.int .i64))[k + 1]? = some (.int .i64 t[k + 1]) := by rw [List.getElem?_map, List.getElem?_eq_getElem b1]; rfl
          have hcast : ((k : Int) + 1) = ((k + 1 : Nat) : Int) := by omega
          have hset : ((t.map (PV.int .i64)).set (k + 1) (.int .i64 t[x.toNat])).set x.toNat (.int .i64 t[k + 1]) = ((t.set (k + 1) t[x.toNat]).set x.toNat t[k + 1]).map (PV.int .i64) := by
            rw [List.map_set, List.map_set]
          have l1 : k + 1 < (t.map (PV.int .i64)).length := by rw [List.length_map]; exact b1
          have l2 : x.toNat < ((t.map (PV.int .i64)).set (k + 1) (.int .i64 t[x.toNat])).length := by rw [List.length_set, List.length_map]; exact b2
          have e1 := evIdx_rf (z := 1) (b := it) (o := 0) (n := N) c1
          rw [← hcast] at e1
          have sw := rt.swap b1 b2 (by omega) (by omega)
          simp [hk2, c1', c2, c3, hi, f7, e1, evIdx_rfi x0 b3, ja, hlo', b1, b2]
          exact ⟨_, sw, by simp, jb.set _⟩
        · simp [hk2, c1', c2, c3, hi, f7]
          exact ⟨t, rt, ja, jb⟩
      · simp [hk2, c1', c2, hi, f7]
        exact ⟨t, rt, ja, jb⟩
    · have c1' : ¬ (k : Int) + 1 < (N : Int) := by omega
      simp [hk2, c1', hi, f7]
      exact ⟨t, rt, ja, jb⟩
  · rintro s' h' ⟨t, rt, ja, jb⟩ hs hg
    exact next s' h' t hs rt ja jb
end
end Go.Proofs.Ytpdgjdnipkmocaa

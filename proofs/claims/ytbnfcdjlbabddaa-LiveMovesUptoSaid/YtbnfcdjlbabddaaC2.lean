/- Lists united: the program's 'united'. -/
import Derived.Test.YtbnfcdjlbabddaaC1
set_option linter.unusedVariables false
set_option linter.unusedSimpArgs false
namespace Go.Proofs.Ytbnfcdjlbabddaa
open Go.Ev

def un (a b : List Int) : List Int := dd (sortI (a ++ b))
theorem mem_dd {l : List Int} {x : Int} : x ∈ dd l ↔ x ∈ l := by
  refine snoc_ind (P := fun l => x ∈ dd l ↔ x ∈ l) (by simp [dd_nil]) (fun l a ih => ?_) l
  rw [dd_snoc, ddS]
  split
  · rename_i h
    rw [ih]
    have : a ∈ l := by
      have := List.mem_of_getLast? h
      rw [dd_last] at h
      exact List.mem_of_getLast? h
    constructor
    · intro q; exact List.mem_append_left _ q
    · intro q
      rcases List.mem_append.1 q with q | q
      · exact q
      · rw [List.mem_singleton.1 q]; exact this
  · rw [List.mem_append, List.mem_append, ih]
theorem mem_un {a b : List Int} {x : Int} : x ∈ un a b ↔ x ∈ a ∨ x ∈ b := by
  unfold un
  rw [mem_dd, (sortI_perm _).mem_iff, List.mem_append]
theorem dd_sorted {l : List Int} (h : l.Pairwise (· ≤ ·)) : (dd l).Pairwise (· < ·) := by
  refine snoc_ind (P := fun l => l.Pairwise (· ≤ ·) → (dd l).Pairwise (· < ·)) (by simp [dd_nil]) (fun l a ih hs => ?_) l h
  rw [List.pairwise_append] at hs
  obtain ⟨h1, _, h2⟩ := hs
  rw [dd_snoc, ddS]
  split
  · exact ih h1
  · rename_i hne
    rw [dd_last] at hne
    refine List.pairwise_append.2 ⟨ih h1, by simp, fun x hx y hy => ?_⟩
    rw [List.mem_singleton.1 hy]
    rw [mem_dd] at hx
    have hl : l ≠ [] := fun q => by rw [q] at hx; cases hx
    have hb := h2 _ (List.getLast_mem hl) a (by simp)
    have hba : l.getLast hl ≠ a := fun q => hne (by rw [List.getLast?_eq_some_getLast hl, q])
    have hxb : x ≤ l.getLast hl := by
      rw [← List.dropLast_concat_getLast hl] at h1 hx
      rcases List.mem_append.1 hx with q | q
      · exact (List.pairwise_append.1 h1).2.2 x q _ (by simp)
      · rw [List.mem_singleton.1 q]; exact Int.le_refl _
    omega
theorem un_sorted (a b : List Int) : (un a b).Pairwise (· < ·) := dd_sorted (sortI_sorted _)
theorem un_len (a b : List Int) : (un a b).length ≤ a.length + b.length := by
  unfold un
  refine Nat.le_trans (dd_len _) ?_
  rw [sortI_length, List.length_append]
  exact Nat.le_refl _
theorem un_nodup (a b : List Int) : (un a b).Nodup := (un_sorted a b).imp fun h => by omega

section
variable {o : Bool} {h : AH} {d : Option Nat} {r : List COper} {κ : List KF} {s : Fr} {Q : Fr → AH → Prop}
theorem united_p (a b : List Int) (ha : a.length ≤ 20000) (hb : b.length ≤ 20000) : Pure T 53 [sl a, sl b] (sl (un a b)) true := by
  refine ⟨c53, rfl, rfl, ?_⟩
  simp [c53]
  refine opH_cloneO (src_sl rfl) (flat_len' _) (by decide) (by simp) (room (by omega)) (fun v1 h1 ha1 hm1 => ?_)
  have g1 := hm1.grow
  simp at g1
  simp [-WR_app]
  refine WR_app_acc (cs := (a.map Enc.c).flatten) (n := a.length) (m := b.length) (ys := (b.map Enc.c).flatten) (by simpa using ha1) (by simp) (by simpa using flat_len' b) (by omega) (room (by omega)) (fun v2 h2 ha2 hm2 => ?_)
  have ha2' : Acc h2 v2 1 ((a ++ b).map Enc.c).flatten (a ++ b).length := by simpa [-flatInts_append] using ha2
  have hml : (a ++ b).length ≤ 40000 := by simp; omega
  clear ha2
  have hun : un a b = dd (sortI (a ++ b)) := rfl
  generalize a ++ b = M at *
  simp
  refine opH_sort ha2' (by omega) (fun h3 ha3 hm3 => ?_)
  simp
  have ha3' : Acc h3 v2 1 ((sortI M).map Enc.c).flatten (sortI M).length := by rw [sortI_length]; exact ha3
  refine compact_c ha3' (by rw [sortI_length]; omega) (fun v4 h4 hs4 hn4 => ?_)
  simp [hs4, hn4, hun]
theorem united_r (a b : List Int) (ha : a.length ≤ 20000) (hb : b.length ≤ 20000) : pureK T 53 (some [sl a, sl b]) o h d r κ s Q = WR T r κ (Fr.put s d (sl (un a b))) h Q := pureK_eq (united_p a b ha hb) (.inl rfl)
end
end Go.Proofs.Ytbnfcdjlbabddaa

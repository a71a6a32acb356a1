/- What the small functions compute: places in lists, what a node uses, binds, leads to. -/
import Derived.Test.YtbnfcdjlbabddaaTok
import Derived.Test.YtbnfcdjlbabddaaDt
import Derived.Test.YtbnfcdjlbabddaaEwC
import Derived.Test.YtbnfcdjlbabddaaEwL
import Derived.Test.YtbnfcdjlbabddaaEwE
set_option linter.unusedVariables false
set_option linter.unusedSimpArgs false
namespace Go.Proofs.Ytbnfcdjlbabddaa
open Go.Ev

theorem tgrow : TGrow T := ⟨_, _, tok⟩

/-- The place of the first that satisfies p, or -1. -/
def placeF (p : Int → Bool) : List Int → Int
  | [] => -1
  | x :: l => if p x then 0 else (let r := placeF p l; if r < 0 then -1 else r + 1)
theorem placeF_none {p : Int → Bool} : ∀ {l : List Int}, l.any p = false → placeF p l = -1
  | [], _ => rfl
  | x :: l, h => by
    simp only [List.any_cons, Bool.or_eq_false_iff] at h
    simp [placeF, h.1, placeF_none h.2]
theorem placeF_at {p : Int → Bool} : ∀ {l : List Int} {k : Nat} (hk : k < l.length), (l.take k).any p = false → p l[k] = true → placeF p l = k
  | x :: l, 0, _, _, h => by simp at h; simp [placeF, h]
  | x :: l, k + 1, hk, h1, h2 => by
    simp only [List.take_succ_cons, List.any_cons, Bool.or_eq_false_iff] at h1
    have ih := placeF_at (l := l) (k := k) (by simpa using hk) h1.2 (by simpa using h2)
    simp only [placeF, h1.1, ih]
    simp; omega
theorem placeF_ge {p : Int → Bool} : ∀ {l : List Int}, (0 ≤ placeF p l) = (l.any p = true)
  | [] => by simp [placeF]
  | x :: l => by
    have ih := placeF_ge (p := p) (l := l)
    simp only [placeF, List.any_cons, Bool.or_eq_true]
    cases hp : p x
    · simp only [Bool.false_eq_true, if_false, false_or, ← ih]
      split <;> simp <;> omega
    · simp

theorem index_p (l : List Int) (x : Int) (hl : l.length < 9223372036854775807) : Pure T 56 [sl l, .int .i64 x] (.int .i64 (placeF (fun y => decide (x = y)) l)) true := by
  refine ⟨c56, rfl, rfl, ?_⟩
  simp [c56]
  refine WK_range tgrow (fun k s h => ∀ y ∈ l.take k, ¬ x = y) l.length w56_0 rfl (by decide) (by simp) (by simp) hl (by decide) (fun _ _ _ _ j _ => j) (by simp) ?_ ?_
  · intro k s' h' hk hj hi hs hg
    have f0 : s' 0 = sl l := (hs 0 (by decide)).trans (by simp)
    have f1 : s' 1 = .int .i64 x := (hs 1 (by decide)).trans (by simp)
    simp [hi, f0, f1, evIdx_nat, rd1_ptr, hk]
    refine condS_split (fun hc => ?_) (fun hc => ?_) <;> simp at hc
    · rw [placeF_at hk (by simpa using hj) (by simp [hc])]
      simp [hi]
    · have := mem_take_succ hk hj (by simpa using hc)
      simpa [hi] using this
  · intro s' h' hj hs hg
    rw [List.take_length] at hj
    rw [placeF_none (by simpa using hj)]
    simp

theorem contains_p (l : List Int) (x : Int) (hl : l.length < 9223372036854775807) : Pure T 38 [sl l, .int .i64 x] (.bool (decide (x ∈ l))) true := by
  refine ⟨c38, rfl, rfl, ?_⟩
  simp [c38, pureK_eq (index_p l x hl) (.inl rfl), placeF_ge]


section
variable {o : Bool} {h : AH} {d : Option Nat} {r : List COper} {κ : List KF} {s : Fr} {Q : Fr → AH → Prop}
theorem contains_r (l : List Int) (x : Int) (hl : l.length ≤ 1000000) : pureK T 38 (some [sl l, .int .i64 x]) o h d r κ s Q = WR T r κ (Fr.put s d (.bool (decide (x ∈ l)))) h Q := pureK_eq (contains_p l x (by omega)) (.inl rfl)
end
theorem in45_p (l : List Int) (x : Int) (hl : l.length < 9223372036854775807) : Pure T 18 [sl l, .int .i64 x] (.bool (decide (x ∈ l))) true := by
  refine ⟨c18, rfl, rfl, ?_⟩
  simp [c18]
  refine WK_loop tgrow (fun k s h => s 5 = .int .i64 (k : Nat) ∧ ∀ y ∈ l.take k, ¬ y = x) l.length w18_0 (by decide) (by simp) ?_
  rintro k s' h' hk ⟨e5, hj⟩ hs hg
  have f0 : s' 0 = sl l := (hs 0 (by decide)).trans (by simp)
  have f1 : s' 1 = .int .i64 x := (hs 1 (by decide)).trans (by simp)
  simp [c18_0, e5, f0]
  refine condS_split (fun hc => ?_) (fun hc => ?_) <;> simp at hc
  · simp [e5, f0, f1, evIdx_nat, rd1_ptr, hc]
    refine condS_split (fun hq => ?_) (fun hq => ?_) <;> simp at hq
    · have : x ∈ l := by rw [← hq]; exact List.getElem_mem hc
      simp [this]
    · have hk2 : k < 9223372036854775807 := by omega
      simp [e5, hk2]
      exact mem_take_succ hc hj hq
  · have hkn : k = l.length := by omega
    rw [hkn, List.take_length] at hj
    have : x ∉ l := fun q => hj x q rfl
    simp [this]
section
variable {o : Bool} {h : AH} {d : Option Nat} {r : List COper} {κ : List KF} {s : Fr} {Q : Fr → AH → Prop}
theorem in45_r (l : List Int) (x : Int) (hl : l.length ≤ 1000000) : pureK T 18 (some [sl l, .int .i64 x]) o h d r κ s Q = WR T r κ (Fr.put s d (.bool (decide (x ∈ l)))) h Q := pureK_eq (in45_p l x (by omega)) (.inl rfl)
end
theorem inR46_p (l : List Int) (x : Int) (hl : l.length < 9223372036854775807) : Pure T 50 [sl l, .int .i64 x] (.bool (decide (x ∈ l))) true := by
  refine ⟨c50, rfl, rfl, ?_⟩
  simp [c50]
  refine WK_loop tgrow (fun k s h => s 5 = .int .i64 (k : Nat) ∧ ∀ y ∈ l.take k, ¬ y = x) l.length w50_0 (by decide) (by simp) ?_
  rintro k s' h' hk ⟨e5, hj⟩ hs hg
  have f0 : s' 0 = sl l := (hs 0 (by decide)).trans (by simp)
  have f1 : s' 1 = .int .i64 x := (hs 1 (by decide)).trans (by simp)
  simp [c50_0, e5, f0]
  refine condS_split (fun hc => ?_) (fun hc => ?_) <;> simp at hc
  · simp [e5, f0, f1, evIdx_nat, rd1_ptr, hc]
    refine condS_split (fun hq => ?_) (fun hq => ?_) <;> simp at hq
    · have : x ∈ l := by rw [← hq]; exact List.getElem_mem hc
      simp [this]
    · have hk2 : k < 9223372036854775807 := by omega
      simp [e5, hk2]
      exact mem_take_succ hc hj hq
  · have hkn : k = l.length := by omega
    rw [hkn, List.take_length] at hj
    have : x ∉ l := fun q => hj x q rfl
    simp [this]
section
variable {o : Bool} {h : AH} {d : Option Nat} {r : List COper} {κ : List KF} {s : Fr} {Q : Fr → AH → Prop}
theorem inR46_r (l : List Int) (x : Int) (hl : l.length ≤ 1000000) : pureK T 50 (some [sl l, .int .i64 x]) o h d r κ s Q = WR T r κ (Fr.put s d (.bool (decide (x ∈ l)))) h Q := pureK_eq (inR46_p l x (by omega)) (.inl rfl)
end
theorem inR45_p (l : List Int) (x : Int) (hl : l.length < 9223372036854775807) : Pure T 73 [sl l, .int .i64 x] (.bool (decide (x ∈ l))) true := by
  refine ⟨c73, rfl, rfl, ?_⟩
  simp [c73]
  refine WK_loop tgrow (fun k s h => s 5 = .int .i64 (k : Nat) ∧ ∀ y ∈ l.take k, ¬ y = x) l.length w73_0 (by decide) (by simp) ?_
  rintro k s' h' hk ⟨e5, hj⟩ hs hg
  have f0 : s' 0 = sl l := (hs 0 (by decide)).trans (by simp)
  have f1 : s' 1 = .int .i64 x := (hs 1 (by decide)).trans (by simp)
  simp [c73_0, e5, f0]
  refine condS_split (fun hc => ?_) (fun hc => ?_) <;> simp at hc
  · simp [e5, f0, f1, evIdx_nat, rd1_ptr, hc]
    refine condS_split (fun hq => ?_) (fun hq => ?_) <;> simp at hq
    · have : x ∈ l := by rw [← hq]; exact List.getElem_mem hc
      simp [this]
    · have hk2 : k < 9223372036854775807 := by omega
      simp [e5, hk2]
      exact mem_take_succ hc hj hq
  · have hkn : k = l.length := by omega
    rw [hkn, List.take_length] at hj
    have : x ∉ l := fun q => hj x q rfl
    simp [this]
section
variable {o : Bool} {h : AH} {d : Option Nat} {r : List COper} {κ : List KF} {s : Fr} {Q : Fr → AH → Prop}
theorem inR45_r (l : List Int) (x : Int) (hl : l.length ≤ 1000000) : pureK T 73 (some [sl l, .int .i64 x]) o h d r κ s Q = WR T r κ (Fr.put s d (.bool (decide (x ∈ l)))) h Q := pureK_eq (inR45_p l x (by omega)) (.inl rfl)
end
theorem inR21_p (l : List Int) (x : Int) (hl : l.length < 9223372036854775807) : Pure T 77 [sl l, .int .i64 x] (.bool (decide (x ∈ l))) true := by
  refine ⟨c77, rfl, rfl, ?_⟩
  simp [c77]
  refine WK_loop tgrow (fun k s h => s 5 = .int .i64 (k : Nat) ∧ ∀ y ∈ l.take k, ¬ y = x) l.length w77_0 (by decide) (by simp) ?_
  rintro k s' h' hk ⟨e5, hj⟩ hs hg
  have f0 : s' 0 = sl l := (hs 0 (by decide)).trans (by simp)
  have f1 : s' 1 = .int .i64 x := (hs 1 (by decide)).trans (by simp)
  simp [c77_0, e5, f0]
  refine condS_split (fun hc => ?_) (fun hc => ?_) <;> simp at hc
  · simp [e5, f0, f1, evIdx_nat, rd1_ptr, hc]
    refine condS_split (fun hq => ?_) (fun hq => ?_) <;> simp at hq
    · have : x ∈ l := by rw [← hq]; exact List.getElem_mem hc
      simp [this]
    · have hk2 : k < 9223372036854775807 := by omega
      simp [e5, hk2]
      exact mem_take_succ hc hj hq
  · have hkn : k = l.length := by omega
    rw [hkn, List.take_length] at hj
    have : x ∉ l := fun q => hj x q rfl
    simp [this]
section
variable {o : Bool} {h : AH} {d : Option Nat} {r : List COper} {κ : List KF} {s : Fr} {Q : Fr → AH → Prop}
theorem inR21_r (l : List Int) (x : Int) (hl : l.length ≤ 1000000) : pureK T 77 (some [sl l, .int .i64 x]) o h d r κ s Q = WR T r κ (Fr.put s d (.bool (decide (x ∈ l)))) h Q := pureK_eq (inR21_p l x (by omega)) (.inl rfl)
end
end Go.Proofs.Ytbnfcdjlbabddaa

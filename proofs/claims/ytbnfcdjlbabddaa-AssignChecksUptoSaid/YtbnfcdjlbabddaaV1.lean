/- The reference: numbers put into ascending lists. -/
import Derived.Test.YtbnfcdjlbabddaaR5
set_option linter.unusedVariables false
set_option linter.unusedSimpArgs false
namespace Go.Proofs.Ytbnfcdjlbabddaa
open Go.Ev

/-- Ascending lists with the same members are the same. -/
theorem ext_sorted : ∀ {a b : List Int}, a.Pairwise (· < ·) → b.Pairwise (· < ·) → (∀ x, x ∈ a ↔ x ∈ b) → a = b
  | [], [], _, _, _ => rfl
  | [], y :: b, _, _, h => absurd ((h y).2 List.mem_cons_self) (by simp)
  | x :: a, [], _, _, h => absurd ((h x).1 List.mem_cons_self) (by simp)
  | x :: a, y :: b, ha, hb, h => by
    rw [List.pairwise_cons] at ha hb
    have hxy : x = y := by
      have h1 := (h x).1 List.mem_cons_self
      have h2 := (h y).2 List.mem_cons_self
      rcases List.mem_cons.1 h1 with q | q
      · exact q
      · rcases List.mem_cons.1 h2 with p | p
        · exact p.symm
        · have := ha.1 y p; have := hb.1 x q; omega
    subst hxy
    rw [ext_sorted ha.2 hb.2 fun z => ?_]
    constructor
    · intro hz
      have := ha.1 z hz
      rcases List.mem_cons.1 ((h z).1 (List.mem_cons_of_mem _ hz)) with q | q
      · omega
      · exact q
    · intro hz
      have := hb.1 z hz
      rcases List.mem_cons.1 ((h z).2 (List.mem_cons_of_mem _ hz)) with q | q
      · omega
      · exact q
theorem un_ext {l a b : List Int} (hl : l.Pairwise (· < ·)) (h : ∀ x, x ∈ l ↔ x ∈ a ∨ x ∈ b) : l = un a b := ext_sorted hl (un_sorted a b) fun x => by rw [h, mem_un]
theorem un_nil {l : List Int} (hl : l.Pairwise (· < ·)) : un l [] = l := (un_ext hl fun x => by simp).symm
theorem un_in {l : List Int} (hl : l.Pairwise (· < ·)) {x : Int} (hx : x ∈ l) : un l [x] = l := (un_ext hl fun y => by
  rw [List.mem_singleton]
  exact ⟨.inl, fun q => q.elim id fun q => q ▸ hx⟩).symm
theorem un_put {l : List Int} (hl : l.Pairwise (· < ·)) {x : Int} (hx : x ∉ l) {k : Nat} (h1 : ∀ y ∈ l.drop k, x < y) (h0 : k = 0 ∨ ∃ (h : k - 1 < l.length), l[k - 1] ≤ x) : l.take k ++ ([x] ++ l.drop k) = un l [x] := by
  have h2 : ∀ y ∈ l.take k, y < x := fun y hy => by
    rcases h0 with rfl | ⟨hk, h0⟩
    · simp at hy
    · obtain ⟨i, hi, rfl⟩ := List.mem_take_iff_getElem.1 hy
      have hne : l[i] ≠ x := fun q => hx (q ▸ List.getElem_mem _)
      by_cases e : i = k - 1
      · subst e; omega
      · have := (List.pairwise_iff_getElem.1 hl) i (k - 1) (by omega) hk (by omega)
        omega
  refine un_ext ?_ fun y => ?_
  · refine List.pairwise_append.2 ⟨hl.sublist (List.take_sublist _ _), ?_, fun a ha b hb => ?_⟩
    · rw [List.singleton_append, List.pairwise_cons]
      exact ⟨h1, hl.sublist (List.drop_sublist _ _)⟩
    · rw [List.singleton_append] at hb
      have := h2 a ha
      rcases List.mem_cons.1 hb with rfl | hb
      · exact this
      · have := h1 b hb; omega
  · rw [List.mem_append, List.mem_append, List.mem_singleton]
    constructor
    · rintro (q | q | q)
      · exact .inl (List.mem_of_mem_take q)
      · exact .inr q
      · exact .inl (List.mem_of_mem_drop q)
    · rintro (q | q)
      · rw [← List.take_append_drop k l] at q
        rcases List.mem_append.1 q with q | q
        · exact .inl q
        · exact .inr (.inr q)
      · exact .inr (.inl q)
theorem un_step {l e : List Int} {k : Nat} (hk : k < e.length) : un (un l (e.take k)) [e[k]] = un l (e.take (k + 1)) := by
  refine un_ext (un_sorted _ _) fun x => ?_
  rw [mem_un, mem_un, take_succ' hk, List.mem_append, or_assoc]

section
variable {o : Bool} {h : AH} {d : Option Nat} {r : List COper} {κ : List KF} {s : Fr} {Q : Fr → AH → Prop}
theorem put_p (l : List Int) (x : Int) (hs : l.Pairwise (· < ·)) (hl : l.length ≤ 100000) : Pure T 67 [sl l, .int .i64 x] (sl (un l [x])) false := by
  refine ⟨c67, rfl, rfl, ?_⟩
  by_cases hx : x ∈ l
  · have := un_in hs hx
    simp [c67, inR45_r l x (by omega), hx, this]
  simp [c67, inR45_r l x (by omega), hx]
  refine WK_loop tgrow (fun k s' h' => h' = AH.zero ∧ k ≤ l.length ∧ s' 5 = .int .i64 ((l.length - k : Nat) : Int) ∧ ∀ y ∈ l.drop (l.length - k), x < y) l.length w67_0 (by decide) (by simp) ?_
  rintro k s' h' hk ⟨rfl, hkl, e5, hj⟩ hs' hg
  have f0 : s' 0 = sl l := (hs' 0 (by decide)).trans (by simp)
  have f1 : s' 1 = .int .i64 x := (hs' 1 (by decide)).trans (by simp)
  have f4 : s' 4 = .emp := (hs' 4 (by decide)).trans (by simp)
  have fin : (∀ y ∈ l.drop (l.length - k), x < y) → (l.length - k = 0 ∨ ∃ (h : l.length - k - 1 < l.length), l[l.length - k - 1] ≤ x) → l.take (l.length - k) ++ ([x] ++ l.drop (l.length - k)) = un l [x] := fun a b => un_put hs hx a b
  have hk2 : k < 9223372036854775807 := by omega
  obtain ⟨a, ha⟩ : ∃ a, a = l.length - k := ⟨_, rfl⟩
  rw [← ha] at e5 hj fin
  have hal : a ≤ l.length := by omega
  have tl := List.length_take (l := l) (i := a)
  have dl := List.length_drop (l := l) (i := a)
  have hw : 0 < a → IntKind.i64.wrap ((a : Int) - 1) = ((a - 1 : Nat) : Int) := fun q => by rw [w64 (by omega)]; omega
  by_cases hst : a = 0 ∨ ∃ (h : a - 1 < l.length), l[a - 1] ≤ x
  · have hu := fin hj hst
    by_cases h0 : 0 < a
    · have hle : ∃ (h : a - 1 < l.length), l[a - 1] ≤ x := by
        rcases hst with q | q
        · omega
        · exact q
      obtain ⟨hb, hle⟩ := hle
      have hle' : ¬ x < l[a - 1] := by omega
      simp [c67_0, e5, f0, f1, h0, hw h0, evIdx_nat, rd1_ptr, hb, hle', evSlice_sl_hi, hal, -WR_app]
      refine WR_app_acc (cs := ([] : List PV)) (n := 0) (m := (l.take a).length) (ys := ((l.take a).map Enc.c).flatten) (by simp; exact Acc.emp) (by simp) (by simpa using flat_len' (l.take a)) (by simp) (room (by omega)) (fun v1 h1 a1 m1 => ?_)
      have g1 := m1.grow
      simp at g1
      simp [f1, -WR_app]
      refine WR_app_acc (cs := ((l.take a).map Enc.c).flatten) (n := (l.take a).length) (m := 1) (ys := [.int .i64 x]) (by simpa using a1) (by simp; exact src_psl rfl) (by rfl) (by omega) (room (by omega)) (fun v2 h2 a2 m2 => ?_)
      have g2 := m2.grow
      simp [evSlice_sl_lo, hal, f0, e5, -WR_app]
      refine WR_app_acc (cs := ((l.take a).map Enc.c).flatten ++ [.int .i64 x]) (n := (l.take a).length + 1) (m := (l.drop a).length) (ys := ((l.drop a).map Enc.c).flatten) (by simpa using a2) (by simp) (by simpa using flat_len' (l.drop a)) (by omega) (room (by omega)) (fun v3 h3 a3 m3 => ?_)
      have e3 : ((l.take a).map Enc.c).flatten ++ [.int .i64 x] ++ ((l.drop a).map Enc.c).flatten = ((un l [x]).map Enc.c).flatten := by
        rw [← hu]; simp
      have n3 : (l.take a).length + 1 + (l.drop a).length = (un l [x]).length := by
        rw [← hu]; simp; omega
      rw [e3, n3] at a3
      simp [a3.snap rfl]
    · simp [c67_0, e5, f0, f1, h0, evSlice_sl_hi, hal, -WR_app]
      refine WR_app_acc (cs := ([] : List PV)) (n := 0) (m := (l.take a).length) (ys := ((l.take a).map Enc.c).flatten) (by simp; exact Acc.emp) (by simp) (by simpa using flat_len' (l.take a)) (by simp) (room (by omega)) (fun v1 h1 a1 m1 => ?_)
      have g1 := m1.grow
      simp at g1
      simp [f1, -WR_app]
      refine WR_app_acc (cs := ((l.take a).map Enc.c).flatten) (n := (l.take a).length) (m := 1) (ys := [.int .i64 x]) (by simpa using a1) (by simp; exact src_psl rfl) (by rfl) (by omega) (room (by omega)) (fun v2 h2 a2 m2 => ?_)
      have g2 := m2.grow
      simp [evSlice_sl_lo, hal, f0, e5, -WR_app]
      refine WR_app_acc (cs := ((l.take a).map Enc.c).flatten ++ [.int .i64 x]) (n := (l.take a).length + 1) (m := (l.drop a).length) (ys := ((l.drop a).map Enc.c).flatten) (by simpa using a2) (by simp) (by simpa using flat_len' (l.drop a)) (by omega) (room (by omega)) (fun v3 h3 a3 m3 => ?_)
      have e3 : ((l.take a).map Enc.c).flatten ++ [.int .i64 x] ++ ((l.drop a).map Enc.c).flatten = ((un l [x]).map Enc.c).flatten := by
        rw [← hu]; simp
      have n3 : (l.take a).length + 1 + (l.drop a).length = (un l [x]).length := by
        rw [← hu]; simp; omega
      rw [e3, n3] at a3
      simp [a3.snap rfl]
  · have h0 : 0 < a := by omega
    have hb : a - 1 < l.length := by omega
    have hlt : x < l[a - 1] := by
      refine Classical.byContradiction fun q => hst (.inr ⟨hb, by omega⟩)
    have hkl1 : k < l.length := by omega
    have ea : l.length - (k + 1) = a - 1 := by omega
    simp [c67_0, e5, f0, f1, h0, hw h0, evIdx_nat, rd1_ptr, hb, hlt, hkl1, ea]
    refine ⟨hkl1, ?_⟩
    intro y hy
    rw [List.drop_eq_getElem_cons hb, List.mem_cons] at hy
    rcases hy with rfl | hy
    · exact hlt
    · rw [show a - 1 + 1 = a by omega] at hy
      exact hj y hy

/-- The same of an own list. -/
theorem put_own {v : PV} {l : List Int} {x : Int} (ha : Acc h v 1 (l.map Enc.c).flatten l.length) (hs : l.Pairwise (· < ·)) (hl : l.length ≤ 100000) (hlw : h.lo ≤ h.nx)
    (next : ∀ v' h', Acc h' v' 1 ((un l [x]).map Enc.c).flatten (un l [x]).length → h'.lo = h.lo → h'.lo ≤ h'.nx → WR T r κ (Fr.put s d v') h' Q) : callK T 100067 [v, .int .i64 x] h d r κ s Q := by
  refine callK_shared (c := c100067) rfl rfl rfl ?_
  have hsn := ha.snap (m := 11) rfl (by decide)
  have hle := ha.len
  by_cases hx : x ∈ l
  · have hu := un_in hs hx
    rw [hu] at next
    simp [c100067, hsn, inR45_r l x (by omega), hx]
    exact next _ _ ha rfl hlw
  simp [c100067, hsn, inR45_r l x (by omega), hx, hle]
  refine WK_loop tgrow (fun k s' h' => h' = h ∧ k ≤ l.length ∧ s' 5 = .int .i64 ((l.length - k : Nat) : Int) ∧ ∀ y ∈ l.drop (l.length - k), x < y) l.length w100067_0 (by decide) (by simp) ?_
  rintro k s' h' hk ⟨rfl, hkl, e5, hj⟩ hs' hg
  have f0 : s' 0 = v := (hs' 0 (by decide)).trans (by simp)
  have f1 : s' 1 = .int .i64 x := (hs' 1 (by decide)).trans (by simp)
  have f4 : s' 4 = .emp := (hs' 4 (by decide)).trans (by simp)
  have fin : (∀ y ∈ l.drop (l.length - k), x < y) → (l.length - k = 0 ∨ ∃ (h : l.length - k - 1 < l.length), l[l.length - k - 1] ≤ x) → l.take (l.length - k) ++ ([x] ++ l.drop (l.length - k)) = un l [x] := fun a b => un_put hs hx a b
  have hk2 : k < 9223372036854775807 := by omega
  obtain ⟨a, hae⟩ : ∃ a, a = l.length - k := ⟨_, rfl⟩
  rw [← hae] at e5 hj fin
  have hal : a ≤ l.length := by omega
  have hw : 0 < a → IntKind.i64.wrap ((a : Int) - 1) = ((a - 1 : Nat) : Int) := fun q => by rw [w64 (by omega)]; omega
  have hfl : (l.map Enc.c).flatten.length = l.length := by simpa using flat_len' l
  have hft : (l.map Enc.c).flatten.take a = ((l.take a).map Enc.c).flatten := by have := flat_take l a; simpa using this
  have hfd : (l.map Enc.c).flatten.drop a = ((l.drop a).map Enc.c).flatten := by have := flat_drop l a; simpa using this
  obtain ⟨_, ⟨rfl, hz⟩ | ⟨j, rfl, hr, hjx, hjl⟩⟩ := ha
  · have hln : l = [] := List.length_eq_zero_iff.1 hz
    subst hln
    have ha0 : a = 0 := by simpa using hal
    subst ha0
    have hu : un [] [x] = [x] := (fin hj (.inl rfl)).symm
    rw [hu] at next
    simp [c100067_0, e5, f0, f1, -WR_app]
    have es1 : evSlice 1 .emp none (some (PV.int IntKind.i64 0)) none = some .emp := rfl
    have es2 : evSlice 1 .emp (some (PV.int IntKind.i64 0)) none none = some .emp := rfl
    simp [es1, -WR_app]
    refine WR_app_acc (cs := ([] : List PV)) (n := 0) (m := 0) (ys := []) (by simp; exact Acc.emp) (by simp) rfl hlw (room (by omega)) (fun v1 h1 a1 m1 => ?_)
    have g1 := m1.grow
    simp [f1, -WR_app]
    refine WR_app_acc (cs := ([] : List PV)) (n := 0) (m := 1) (ys := [.int .i64 x]) (by simpa using a1) (by simp; exact src_psl rfl) (by rfl) (by omega) (room (by omega)) (fun v2 h2 a2 m2 => ?_)
    have g2 := m2.grow
    simp [es2, f0, e5, -WR_app]
    refine WR_app_acc (cs := [PV.int .i64 x]) (n := 1) (m := 0) (ys := []) (by simpa using a2) (by simp) rfl (by omega) (room (by omega)) (fun v3 h3 a3 m3 => ?_)
    have g3 := m3.grow
    simp
    exact next _ _ (by simpa using a3) (by rw [g3.1, g2.1, g1.1]) (by omega)
  by_cases hst : a = 0 ∨ ∃ (h : a - 1 < l.length), l[a - 1] ≤ x
  · have hu := fin hj hst
    by_cases h0 : 0 < a
    · have hle : ∃ (h : a - 1 < l.length), l[a - 1] ≤ x := by
        rcases hst with q | q
        · omega
        · exact q
      obtain ⟨hb, hle⟩ := hle
      have hle' : ¬ x < l[a - 1] := by omega
      simp [c100067_0, e5, f0, f1, h0, hw h0, evIdx_rf hb, hr, ints_get hb, hle', evSlice_rf_hi, hal, -WR_app]
      refine WR_app_acc (cs := ([] : List PV)) (n := 0) (m := a) (ys := ((l.take a).map Enc.c).flatten) (by simp; exact Acc.emp) (by simp [hr, rowSrc, hfl, hal, hft]) (by simpa [Nat.min_eq_left hal] using flat_len' (l.take a)) hlw (room (by omega)) (fun v1 h1 a1 m1 => ?_)
      have g1 := m1.grow
      have r1 : h1.row j = some (l.map Enc.c).flatten := by rw [m1.row hjx (by simp)]; exact hr
      simp [f1, -WR_app]
      refine WR_app_acc (cs := ((l.take a).map Enc.c).flatten) (n := a) (m := 1) (ys := [.int .i64 x]) (by simpa using a1) (by simp; exact src_psl rfl) (by rfl) (by omega) (room (by omega)) (fun v2 h2 a2 m2 => ?_)
      have g2 := m2.grow
      have r2 : h2.row j = some (l.map Enc.c).flatten := by
        rw [m2.row (by omega) ?_]
        · exact r1
        · simp
          intro z o n e
          rcases m1.2 with q | q | ⟨z', i', o', n', q, hi'⟩
          · rw [q] at e; simp at e
          · rw [q] at e; cases e
          · rw [q] at e; cases e; omega
      simp [evSlice_rf_lo, hal, f0, e5, -WR_app]
      refine WR_app_acc (cs := ((l.take a).map Enc.c).flatten ++ [.int .i64 x]) (n := a + 1) (m := l.length - a) (ys := ((l.drop a).map Enc.c).flatten) (by simpa using a2) (by simp [r2, rowSrc, hfl, hal, hfd]; exact List.take_of_length_le (Nat.le_of_eq (by simpa using flat_len' (l.drop a)))) (by simpa using flat_len' (l.drop a)) (by omega) (room (by omega)) (fun v3 h3 a3 m3 => ?_)
      have e3 : ((l.take a).map Enc.c).flatten ++ [.int .i64 x] ++ ((l.drop a).map Enc.c).flatten = ((un l [x]).map Enc.c).flatten := by
        rw [← hu]; simp
      have n3 : a + 1 + (l.length - a) = (un l [x]).length := by
        rw [← hu]; simp; omega
      rw [e3, n3] at a3
      have g3 := m3.grow
      simp
      exact next _ _ a3 (by rw [g3.1, g2.1, g1.1]) (by omega)
    · simp [c100067_0, e5, f0, f1, h0, evSlice_rf_hi, hal, -WR_app]
      refine WR_app_acc (cs := ([] : List PV)) (n := 0) (m := a) (ys := ((l.take a).map Enc.c).flatten) (by simp; exact Acc.emp) (by simp [hr, rowSrc, hfl, hal, hft]) (by simpa [Nat.min_eq_left hal] using flat_len' (l.take a)) hlw (room (by omega)) (fun v1 h1 a1 m1 => ?_)
      have g1 := m1.grow
      have r1 : h1.row j = some (l.map Enc.c).flatten := by rw [m1.row hjx (by simp)]; exact hr
      simp [f1, -WR_app]
      refine WR_app_acc (cs := ((l.take a).map Enc.c).flatten) (n := a) (m := 1) (ys := [.int .i64 x]) (by simpa using a1) (by simp; exact src_psl rfl) (by rfl) (by omega) (room (by omega)) (fun v2 h2 a2 m2 => ?_)
      have g2 := m2.grow
      have r2 : h2.row j = some (l.map Enc.c).flatten := by
        rw [m2.row (by omega) ?_]
        · exact r1
        · simp
          intro z o n e
          rcases m1.2 with q | q | ⟨z', i', o', n', q, hi'⟩
          · rw [q] at e; simp at e
          · rw [q] at e; cases e
          · rw [q] at e; cases e; omega
      simp [evSlice_rf_lo, hal, f0, e5, -WR_app]
      refine WR_app_acc (cs := ((l.take a).map Enc.c).flatten ++ [.int .i64 x]) (n := a + 1) (m := l.length - a) (ys := ((l.drop a).map Enc.c).flatten) (by simpa using a2) (by simp [r2, rowSrc, hfl, hal, hfd]; exact List.take_of_length_le (Nat.le_of_eq (by simpa using flat_len' (l.drop a)))) (by simpa using flat_len' (l.drop a)) (by omega) (room (by omega)) (fun v3 h3 a3 m3 => ?_)
      have e3 : ((l.take a).map Enc.c).flatten ++ [.int .i64 x] ++ ((l.drop a).map Enc.c).flatten = ((un l [x]).map Enc.c).flatten := by
        rw [← hu]; simp
      have n3 : a + 1 + (l.length - a) = (un l [x]).length := by
        rw [← hu]; simp; omega
      rw [e3, n3] at a3
      have g3 := m3.grow
      simp
      exact next _ _ a3 (by rw [g3.1, g2.1, g1.1]) (by omega)
  · have h0 : 0 < a := by omega
    have hb : a - 1 < l.length := by omega
    have hlt : x < l[a - 1] := by
      refine Classical.byContradiction fun q => hst (.inr ⟨hb, by omega⟩)
    have hkl1 : k < l.length := by omega
    have ea : l.length - (k + 1) = a - 1 := by omega
    simp [c100067_0, e5, f0, f1, h0, hw h0, evIdx_rf hb, hr, ints_get hb, hlt, hkl1, ea]
    refine ⟨hkl1, ?_⟩
    intro y hy
    rw [List.drop_eq_getElem_cons hb, List.mem_cons] at hy
    rcases hy with rfl | hy
    · exact hlt
    · rw [show a - 1 + 1 = a by omega] at hy
      exact hj y hy
end
end Go.Proofs.Ytbnfcdjlbabddaa

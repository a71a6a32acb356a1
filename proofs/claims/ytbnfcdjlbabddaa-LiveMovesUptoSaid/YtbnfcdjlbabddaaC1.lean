/- Lists united: sorted, each number once. -/
import Derived.Test.YtbnfcdjlbabddaaA3
set_option linter.unusedVariables false
set_option linter.unusedSimpArgs false
namespace Go.Proofs.Ytbnfcdjlbabddaa
open Go.Ev

/-- One of each run of equal numbers. -/
def ddS (acc : List Int) (a : Int) : List Int := if acc.getLast? = some a then acc else acc ++ [a]
def dd (l : List Int) : List Int := l.foldl ddS []
theorem dd_nil : dd [] = [] := rfl
theorem dd_snoc (l : List Int) (a : Int) : dd (l ++ [a]) = ddS (dd l) a := by simp [dd]
theorem snoc_ind {α : Type} {P : List α → Prop} (h0 : P []) (h1 : ∀ l a, P l → P (l ++ [a])) : ∀ l : List α, P l := by
  have key : ∀ (n : Nat) (l : List α), l.length = n → P l := by
    intro n
    induction n with
    | zero => intro l e; rw [List.length_eq_zero_iff.1 e]; exact h0
    | succ n ih =>
      intro l e
      have hne : l ≠ [] := fun q => by rw [q] at e; cases e
      rw [← List.dropLast_concat_getLast hne]
      exact h1 _ _ (ih _ (by rw [List.length_dropLast]; omega))
  exact fun l => key _ l rfl
theorem dd_last (l : List Int) : (dd l).getLast? = l.getLast? := by
  refine snoc_ind (P := fun l => (dd l).getLast? = l.getLast?) rfl (fun l a ih => ?_) l
  rw [dd_snoc, ddS]
  split
  · rename_i h; simp [h]
  · simp
theorem dd_step {l : List Int} {p : Nat} (h0 : 0 < p) (hp : p < l.length) : dd (l.take (p + 1)) = if l[p] = l[p - 1] then dd (l.take p) else dd (l.take p) ++ [l[p]] := by
  rw [take_succ' hp, dd_snoc, ddS, dd_last]
  have e : (l.take p).getLast? = some l[p - 1] := by
    rw [List.getLast?_eq_getElem?, List.length_take, Nat.min_eq_left (by omega), List.getElem?_take, if_pos (by omega), List.getElem?_eq_getElem (by omega)]
  rw [e]
  by_cases q : l[p] = l[p - 1]
  · simp [q]
  · have : ¬ l[p - 1] = l[p] := fun z => q z.symm
    simp [q, this]
theorem dd_len (l : List Int) : (dd l).length ≤ l.length := by
  refine snoc_ind (P := fun l => (dd l).length ≤ l.length) (by simp [dd_nil]) (fun l a ih => ?_) l
  rw [dd_snoc, ddS]
  split
  · simp; omega
  · simp; omega

theorem ints_len (l : List Int) : (l.map Enc.c).flatten.length = l.length := by rw [flat_ints]; simp
theorem ints_set (l : List Int) (k : Nat) (v : Int) : (l.map Enc.c).flatten.set k (.int .i64 v) = ((l.set k v).map Enc.c).flatten := by
  rw [flat_ints, flat_ints, List.map_set]
theorem snap_part {h : AH} {i w m : Nat} {cells : List PV} {D : List Int} (hr : h.row i = some cells) (hc : cells.take w = (D.map Enc.c).flatten) (hw : w = D.length) (hl : w ≤ cells.length) :
    snap h (m + 1 + 1) (.rf 1 i 0 w) = some (sl D) ∧ noImm h (m + 1 + 1) (.rf 1 i 0 w) = true := by
  have e : allO (snap h (m + 1)) (D.map Enc.c).flatten = some (D.map Enc.c).flatten := allO_flat (show Enc.dep Int ≤ m + 1 by simp) D
  constructor
  · generalize m + 1 = d at *
    simp only [snap, hr]
    rw [if_pos (by omega)]
    simp only [List.drop_zero, Nat.mul_one, hc, e, Option.map_some]
    rw [hw]; rfl
  · have e2 := noImm_ints (h := h) D m
    generalize m + 1 = d at *
    simp only [Go.Ev.noImm, hr, List.drop_zero, Nat.mul_one, hc, e2]

section
variable {h : AH} {d : Option Nat} {r : List COper} {κ : List KF} {s : Fr} {Q : Fr → AH → Prop}

theorem compact_c {v : PV} {l : List Int} (a : Acc h v 1 (l.map Enc.c).flatten l.length) (hl : l.length ≤ 100000)
    (next : ∀ v' h', snap h' 12 v' = some (sl (dd l)) → noImm h' 12 v' = true → WR T r κ (Fr.put s d v') h' Q) : callK T 69 [v] h d r κ s Q := by
  refine callK_shared (c := c69) rfl rfl rfl ?_
  simp [c69, a.len]
  by_cases h2 : l.length < 2
  · have hdd : dd l = l := by
      match l, h2 with
      | [], _ => rfl
      | [x], _ => rfl
    have e : (l.length : Int) < 2 := by omega
    simp [e]
    exact next _ _ (by rw [a.snap rfl (by decide), hdd]) a.freshInts
  · have e : ¬ (l.length : Int) < 2 := by omega
    obtain ⟨i, rfl, hr⟩ := acc_rf a (k := 0) (by omega)
    obtain ⟨_, ⟨q, _⟩ | ⟨j, q, _, hj, hlo⟩⟩ := a
    · cases q
    cases q
    simp [e]
    refine WK_loop tgrow (fun k s' h' => h' = h ∧ s' 3 = .int .i64 ((k + 1 : Nat) : Int) ∧ k + 1 ≤ l.length ∧ dd (l.take (k + 1)) = l.take (k + 1)) l.length w69_0 (by decide) (by simp; exact ⟨by omega, by cases l with | nil => rfl | cons x l => simp [dd, ddS]⟩) ?_
    rintro k s' h' hk ⟨rfl, e3, hkl, jd⟩ hs hg
    have f0 : s' 0 = .rf 1 i 0 l.length := (hs 0 (by decide)).trans (by simp)
    have hm0 : 0 < k + 1 := by omega
    rw [show ((k : Nat) + 1 : Nat) + 1 = (k + 1) + 1 from rfl]
    have hkk : k < l.length := by omega
    simp only [show (k < l.length) = True from by simp [hkk], true_and]
    generalize k + 1 = m at *
    have hw1 : IntKind.i64.wrap ((m : Int) - 1) = ((m - 1 : Nat) : Int) := by rw [w64 (by omega)]; omega
    simp [c69_0, e3, f0, -Int.natCast_add]
    by_cases hlt : m < l.length
    case neg =>
      have hml : m = l.length := by omega
      subst hml
      simp [f0]
      rw [List.take_length] at jd
      obtain ⟨q1, q2⟩ := snap_part (w := l.length) (D := l) hr (List.take_of_length_le (by rw [flat_len']; simp)) rfl (by rw [flat_len']; simp)
      exact next _ _ (by rw [q1, jd]) q2
    have hlt1 : m - 1 < l.length := by omega
    simp [e3, f0, hlt, evIdx_rf hlt, hr, ints_get hlt, hw1, evIdx_rf hlt1, ints_get hlt1, -Int.natCast_add]
    have hds := dd_step hm0 hlt
    refine condS_split (fun hc => ?_) (fun hc => ?_) <;> simp only [decide_eq_true_eq, decide_eq_false_iff_not] at hc
    · rw [if_pos hc, jd] at hds
      simp [e3, f0, evSlice_rf_lo (show m ≤ l.length by omega), -Int.natCast_add]
      refine WK_loop tgrow (fun q s2 h2 => h2.lo = h'.lo ∧ h2.nx = h'.nx ∧ s2 5 = .int .i64 ((q + 1 : Nat) : Int) ∧ m + (q + 1) ≤ l.length ∧ ∃ (w : Nat) (C : List Int), s2 3 = .int .i64 (w : Int) ∧ h2.row i = some (C.map Enc.c).flatten ∧ C.length = l.length ∧ w < m + (q + 1) ∧
        C.take w = dd (l.take (m + (q + 1))) ∧ w = (dd (l.take (m + (q + 1)))).length ∧ ∀ j, m + q ≤ j → C[j]? = l[j]?) l.length w69_1 (by decide) ?_ ?_
      · refine ⟨rfl, rfl, by simp, by omega, m, l, by simp [e3], hr, rfl, by omega, by rw [hds], ?_, fun j _ => rfl⟩
        rw [show m + (0 + 1) = m + 1 by omega, hds, List.length_take]; omega
      · rintro q s2 h2 hq ⟨i1, i2, i5, i6, w, C, i3, ir, ic, iw, id, iwl, ig⟩ hs2 hg2
        have g0 : s2 0 = .rf 1 i 0 l.length := (hs2 0 (by decide)).trans (by simp [f0])
        have g4 : s2 4 = .rf 1 i m (l.length - m) := (hs2 4 (by decide)).trans (by simp)
        have hq1 : q < l.length := by omega
        simp only [show (q < l.length) = True from by simp [hq1], true_and]
        by_cases hend : m + (q + 1) < l.length
        · have hlt2 : q + 1 < l.length - m := by omega
          have hlt3 : q < l.length - m := by omega
          have hwq : IntKind.i64.wrap (((q + 1 : Nat) : Int) - 1) = (q : Int) := by rw [w64 (by omega)]; omega
          have c1 : C[m + (q + 1)]? = some l[m + (q + 1)] := by rw [ig _ (by omega), List.getElem?_eq_getElem hend]
          have c2 : C[m + q]? = some l[m + q] := by rw [ig _ (by omega), List.getElem?_eq_getElem (by omega)]
          have b1 : m + (q + 1) < C.length := by omega
          have b2 : m + q < C.length := by omega
          have v1 : C[m + (q + 1)] = l[m + (q + 1)] := by rw [List.getElem?_eq_getElem b1] at c1; exact Option.some.inj c1
          have v2 : C[m + q] = l[m + q] := by rw [List.getElem?_eq_getElem b2] at c2; exact Option.some.inj c2
          have r1 : (C.map Enc.c).flatten[m + (q + 1)]? = some (.int .i64 l[m + (q + 1)]) := by rw [ints_get b1, v1]
          have r2 : (C.map Enc.c).flatten[m + q]? = some (.int .i64 l[m + q]) := by rw [ints_get b2, v2]
          have hdn := dd_step (l := l) (p := m + (q + 1)) (by omega) hend
          rw [show l[m + (q + 1) - 1]'(by omega) = l[m + q] from by congr 1] at hdn
          simp [c69_1, i5, g0, g4, hlt2, hwq, evIdx_rf hlt2, evIdx_rf hlt3, ir, r1, r2, -Int.natCast_add]
          refine condS_split (fun hd => ?_) (fun hd => ?_)
          · have hne : ¬ l[m + (q + 1)] = l[m + q] := by simpa using hd
            rw [if_neg hne] at hdn
            have hwl : w < l.length := by omega
            have hwc : w < (C.map Enc.c).flatten.length := by rw [flat_len']; simp; omega
            have hw3 : IntKind.i64.wrap (((q + 1 : Nat) : Int) + 1) = ((q + 1 + 1 : Nat) : Int) := by rw [w64 (by omega)]; omega
            have hw4 : IntKind.i64.wrap ((w : Int) + 1) = ((w + 1 : Nat) : Int) := by rw [w64 (by omega)]; omega
            have hwr : wr1 h2 i (some (C.map Enc.c).flatten) w (.int .i64 l[m + (q + 1)]) = some (h2.set i (.cells ((C.set w l[m + (q + 1)]).map Enc.c).flatten)) := by
              rw [wr1_some hwc, ints_set]
            simp [i3, i5, g0, g4, evIdx_rf hlt2, evIdx_rf hwl, ir, r1, i1, hlo, hwr, hw3, hw4, -Int.natCast_add]
            refine ⟨i2, by omega, w + 1, by simp, C.set w l[m + (q + 1)], (by rw [List.map_set]; rfl), by simpa using ic, by omega, ?_, ?_, fun j hj => ?_⟩
            · rw [show m + (q + 1 + 1) = m + (q + 1) + 1 by omega, hdn, ← id]
              rw [take_succ' (by simp; omega), List.take_set_of_le (by omega)]
              simp
            · rw [show m + (q + 1 + 1) = m + (q + 1) + 1 by omega, hdn, List.length_append, ← iwl]; rfl
            · rw [List.getElem?_set_ne (by omega)]
              exact ig j (by omega)
          · have he : l[m + (q + 1)] = l[m + q] := by simpa using hd
            rw [if_pos he] at hdn
            have hw3 : IntKind.i64.wrap (((q + 1 : Nat) : Int) + 1) = ((q + 1 + 1 : Nat) : Int) := by rw [w64 (by omega)]; omega
            simp [i5, hw3, -Int.natCast_add]
            rw [show m + (q + 1 + 1) = m + (q + 1) + 1 by omega, hdn]
            exact ⟨i1, i2, by omega, w, i3, C, ir, ic, by omega, id, iwl, fun j hj => ig j (by omega)⟩
        · have hp : m + (q + 1) = l.length := by omega
          rw [hp, List.take_length] at id iwl
          have hwle : w ≤ l.length := by omega
          have hnl : ¬ (((q + 1 : Nat) : Int) < ((l.length - m : Nat) : Int)) := by omega
          have hnl' : ¬ (q + 1 < l.length - m) := by omega
          have hcl := evClr_rf (h := h2) (z := 1) (i := i) (o := w) (n := l.length - w) (zs := [.int .i64 0]) (by omega : h2.lo ≤ i) ir (by rw [ints_len]; omega) rfl
          have hs1' := evSlice_rf_lo (z := 1) (i := i) (o := 0) (n := l.length) (m := w) hwle
          have hs2' := evSlice_rf_hi (z := 1) (i := i) (o := 0) (n := l.length) (m := w) hwle
          simp only [Nat.zero_add, Nat.mul_one] at hs1'
          simp [c69_1, i5, g0, g4, hnl', i3, hs1', hs2', hcl, -Int.natCast_add, -splice, -List.flatten_replicate_singleton]
          obtain ⟨q1, q2⟩ := snap_part (h := h2.set i (.cells (splice (C.map Enc.c).flatten w (List.replicate (l.length - w) [PV.int .i64 0]).flatten))) (m := 10) (w := w) (D := dd l) (i := i) (by rw [row_set, if_pos rfl]) (by
            unfold splice
            rw [List.append_assoc, List.take_append_of_le_length (by rw [List.length_take, ints_len]; omega), List.take_take, Nat.min_self, ← id]
            have := flat_take C w
            simpa using this) iwl (by rw [splice_len (by rw [ints_len]; simp; omega), ints_len]; omega)
          exact next _ _ q1 q2
    · rw [if_neg hc, jd] at hds
      have hw3 : IntKind.i64.wrap ((m : Int) + 1) = ((m + 1 : Nat) : Int) := by rw [w64 (by omega)]; omega
      simp [e3, hw3, -Int.natCast_add]
      exact ⟨by omega, by rw [hds, take_succ' hlt]⟩
end
end Go.Proofs.Ytbnfcdjlbabddaa

/- The program's 'Loops'; the law BlocksNext. -/
import Derived.Test.YtpdgjdnipkmocaaF8
import Derived.Test.YtpdgjdnipkmocaaAwake
set_option linter.unusedVariables false
set_option linter.unusedSimpArgs false
namespace Go.Proofs.Ytpdgjdnipkmocaa
open Go.Ev

theorem placeF_split {p : Int → Bool} : ∀ {l : List Int}, (l.any p = false ∧ placeF p l = -1) ∨ (∃ k, ∃ hk : k < l.length, placeF p l = (k : Nat) ∧ (l.take k).any p = false ∧ p l[k] = true)
  | [] => .inl ⟨rfl, rfl⟩
  | x :: l => by
    cases hx : p x
    · rcases placeF_split (p := p) (l := l) with ⟨h1, h2⟩ | ⟨k, hk, h1, h2, h3⟩
      · left; simp [placeF, hx, h1, h2]
      · right
        refine ⟨k + 1, by simpa using hk, ?_, by simp only [List.take_succ_cons, List.any_cons, hx, h2]; rfl, by simpa using h3⟩
        simp only [placeF, hx, h1]
        rw [if_neg (by simp), if_neg (by omega)]
        omega
    · right
      exact ⟨0, by simp, by simp [placeF, hx], by simp, by simpa using hx⟩

section
variable {o : Bool} {h : AH} {d : Option Nat} {r : List COper} {κ : List KF} {s : Fr} {Q : Fr → AH → Prop}

/-- What remains behind a deletion: the first cells of an own block. -/
theorem deleteF_c (l : List Int) (f : Nat) (cs : List PV) (p : Int → Bool) (v : PV) (hf : ∀ x ∈ l, Pure T f ([.int .i64 x] ++ cs) (.bool (p x)) true) (hfv : f < vb) (hc : cs.all (imm 11) = true) (hl : l.length < 1000000)
    (ha : Acc h v 1 (l.map Enc.c).flatten l.length)
    (next : ∀ v' h', src h' 1 v' = some ((l.filter fun x => !p x).length, ((l.filter fun x => !p x).map Enc.c).flatten) → (∀ z i o n, v' = .rf z i o n → z = 1) → WR T r κ (Fr.put s d v') h' Q) :
    callK T 36 [v, .fn f [] cs] h d r κ s Q := by
  have hc12 : cs.all (imm 12) = true := List.all_eq_true.2 fun x hx => imm_mono 11 _ _ (by decide) (List.all_eq_true.1 hc x hx)
  have e1 : ∀ h, allO (snap h 11) cs = some cs := fun h => allO_imm (fun v hv => snap_imm h _ v hv) _ hc
  have e2 : cs.any (own 11) = false := by
    rw [List.any_eq_false]
    intro x hx
    rw [own_imm 11 x (List.all_eq_true.1 hc x hx)]
    simp
  have hi2 : ∀ x, ([PV.int .i64 x] ++ cs).all (imm 12) = true := fun x => by rw [List.all_append, hc12]; simp
  refine callK_shared (c := c36) rfl rfl rfl ?_
  simp [c36, ha.snap rfl, e1, e2, pureK_eq (indexF_p l f cs p hf hfv hc12 (by omega)) (.inl rfl)]
  rcases placeF_split (p := p) (l := l) with ⟨q1, q2⟩ | ⟨k0, hk0, q1, q2, q3⟩
  · have hfil : l.filter (fun x => !p x) = l := by
      rw [List.filter_eq_self]
      intro x hx
      have := List.any_eq_false.1 q1 x hx
      simpa using this
    simp [q2]
    refine next _ _ (by rw [hfil]; exact ha.src) ?_
    intro z i o n e
    obtain ⟨_, ⟨rfl, _⟩ | ⟨j, rfl, _⟩⟩ := ha
    · cases e
    · cases e; rfl
  obtain ⟨hlen, ⟨rfl, h0⟩ | ⟨b, rfl, hr, hb, hlo⟩⟩ := ha
  · omega
  have hk1 : ((k0 : Int) = -1) = False := by simp
  have hk2 : k0 < 9223372036854775807 := by omega
  simp [q1, hk1, hk2]
  -- the rows: a list that begins with what is kept and ends with what is still to be seen
  have hfk : (l.take (k0 + 1)).filter (fun x => !p x) = l.take k0 := by
    rw [take_succ' hk0, List.filter_append]
    simp only [List.filter_cons, q3, Bool.not_true, Bool.false_eq_true, if_false, List.filter_nil, List.append_nil]
    rw [List.filter_eq_self]
    intro x hx
    have := List.any_eq_false.1 q2 x hx
    simpa using this
  refine WK_loop tgrow (fun k s' h' => ∃ L : List Int, s' 6 = .int .i64 ((k0 + 1 + k : Nat) : Int) ∧ s' 5 = .int .i64 (((l.take (k0 + 1 + k)).filter fun x => !p x).length : Nat) ∧ h'.row b = some (L.map (PV.int .i64)) ∧ L.length = l.length ∧
    ((l.take (k0 + 1 + k)).filter fun x => !p x).length < k0 + 1 + k ∧ L.take ((l.take (k0 + 1 + k)).filter fun x => !p x).length = (l.take (k0 + 1 + k)).filter (fun x => !p x) ∧ L.drop (k0 + 1 + k) = l.drop (k0 + 1 + k)) (l.length - (k0 + 1)) w36_0 (by decide) ?_ ?_
  · refine ⟨l, ?_⟩
    rw [flat_ints] at hr
    simp [hfk, hr]
    omega
  rintro k s' h' hk ⟨L, e6, e5, er, eL, elt, etk, edr⟩ hs hg
  have f0 : s' 0 = .rf 1 b 0 l.length := (hs 0 (by decide)).trans (by simp)
  have f1 : s' 1 = .fn f [] cs := (hs 1 (by decide)).trans (by simp)
  have hlo' : h'.lo ≤ b := by have := hg.1; omega
  have hjw : k0 + 1 + (k + 1) = (k0 + 1 + k) + 1 := by omega
  rw [hjw]
  have hjl : k0 + 1 + k ≤ l.length := by omega
  have hkj : (k < l.length - (k0 + 1)) = (k0 + 1 + k < l.length) := by apply propext; omega
  rw [hkj]
  generalize k0 + 1 + k = j at *
  generalize hm : ((l.take j).filter fun x => !p x).length = m at *
  have e6' : s' 6 = .int .i64 ((j : Nat) : Int) := e6
  simp [c36_0, e6', f0]
  refine condS_split (fun hc' => ?_) (fun hc' => ?_) <;> simp at hc'
  · have hLj : L[j]? = some l[j] := by
      have := congrArg (fun q : List Int => q[0]?) edr
      simp only [List.getElem?_drop, Nat.add_zero] at this
      rw [this, List.getElem?_eq_getElem hc']
    have hj2 : j < 9223372036854775807 := by omega
    simp [e6', f0, f1, evIdx_rf, hc', er, hLj, hfv]
    rw [show PV.int .i64 l[j] :: cs = [PV.int .i64 l[j]] ++ cs from rfl, callK_Pure (hf _ (List.getElem_mem hc')) (hi2 _)]
    simp
    cases hq : p l[j]
    · have hml : m < l.length := by omega
      have hml2 : m < L.length := by omega
      have hm2 : m < 9223372036854775807 := by omega
      have hft : (l.take (j + 1)).filter (fun x => !p x) = (l.take j).filter (fun x => !p x) ++ [l[j]] := by
        rw [take_succ' hc', List.filter_append]; simp [hq]
      simp [e5, e6', f0, evIdx_rf, hml, hlo', er, hml2, hm2, hj2, hft, hc', hm]
      refine ⟨L.set m l[j], ?_, by simp [eL], by omega, ?_, ?_⟩
      · rw [List.map_set]
      · rw [List.take_succ_eq_append_getElem (by simpa using hml2)]
        simp [List.take_set_of_le, etk]
      · rw [List.drop_set_of_lt (by omega)]
        have := congrArg (List.drop 1) edr
        simpa using this
    · have hft : (l.take (j + 1)).filter (fun x => !p x) = (l.take j).filter (fun x => !p x) := by
        rw [take_succ' hc', List.filter_append]; simp [hq]
      simp [e6', hj2, hft, hc', hm]
      refine ⟨e5, L, er, eL, by omega, etk, ?_⟩
      have := congrArg (List.drop 1) edr
      simpa using this
  · have hjn : j = l.length := by omega
    subst hjn
    simp [e5, f0]
    rw [List.take_length] at hm etk
    have hml : m ≤ l.length := by rw [← hm]; exact List.length_filter_le _ _
    have hf0 : (List.replicate (l.length - m) [PV.int .i64 0]).flatten = (List.replicate (l.length - m) (0 : Int)).map (PV.int .i64) := by
      generalize l.length - m = q
      induction q with
      | zero => rfl
      | succ q ih => rw [List.replicate_succ, List.flatten_cons, ih, List.replicate_succ]; rfl
    have hsp : splice (L.map (PV.int .i64)) m (List.replicate (l.length - m) [PV.int .i64 0]).flatten = (L.take m ++ List.replicate (l.length - m) 0).map (PV.int .i64) := by
      rw [hf0, splice, List.map_append, List.map_take, List.drop_of_length_le (by simp [eL]; omega), List.append_nil]
    have hcl : evClr h' 1 [PV.int .i64 0] (.rf 1 b m (l.length - m)) = some (.tup [], h'.set b (.cells ((L.take m ++ List.replicate (l.length - m) 0).map (PV.int .i64)))) := by
      rw [← hsp]
      exact evClr_rf hlo' er (by simp [eL]; omega) rfl
    simp [evSlice_rf_lo hml, hcl, evSlice_rf_hi hml, f0, e5]
    refine next _ _ ?_ (fun z i o n e => by cases e; rfl)
    rw [src_rf, row_set, if_pos rfl, rowSrc_some (by simp [eL]; omega), flat_ints, hm, ← etk]
    simp [eL, hml]

theorem loops_p (p : LProc) (hp : FitP p) : Pure T 17 [.agg (Enc.c p)] (sl (loops p)) false := by
  refine ⟨c17, rfl, rfl, ?_⟩
  have hp1 := hp.1
  have hrl := reached_len p
  simp [c17]
  refine reached_c p hp (by simp) (fun v h' ha hk hn => ?_)
  simp
  refine deleteF_c (reached p) _ [.pi (Enc.c p)] (fun b => !decide (b ∈ fromS p (succ p b))) v (fun x hx => ?_) (by decide) (by simp) (by omega) ha (fun v' h2 hs hz => ?_)
  · exact loopsF_p p hp (reached_laid hx) x (reached_bd hx).1 (reached_bd hx).2
  · have e : ((reached p).filter fun x => !(!decide (x ∈ fromS p (succ p x)))) = loops p := by simp [loops]
    rw [e] at hs
    simp [snap_src (m := 11) hs (fun z' i o n' e => hz _ _ _ _ e) (allO_flat (by decide) (loops p))]
    rfl
theorem loops_r (p : LProc) (hp : FitP p) : pureK T 17 (some [.agg [PV.str p.name, sl p.params, PV.int .i64 p.result, sl p.sig.params, PV.str p.sig.base, sl p.sig.result, PV.str p.sig.rest, sl p.blocks, PV.bool p.extern]]) false h d r κ s Q = WR T r κ (Fr.put s d (sl (loops p))) h Q := pureK_eq (loops_p p hp) (.inr rfl)

theorem equal_r (a b : List Int) (ha : a.length ≤ 100000) : pureK T 12 (some [sl a, sl b]) o h d r κ s Q = WR T r κ (Fr.put s d (.bool (decide (a = b)))) h Q := pureK_eq (equal_p a b (by omega)) (.inl rfl)
theorem few_r (p : LProc) : pureK T 10 (some [.agg [PV.str p.name, sl p.params, PV.int .i64 p.result, sl p.sig.params, PV.str p.sig.base, sl p.sig.result, PV.str p.sig.rest, sl p.blocks, PV.bool p.extern]]) o h d r κ s Q = WR T r κ (Fr.put s d (.bool (fewP p))) h Q := pureK_eq (few_p p) (.inl rfl)
end

theorem few_fit {p : LProc} (h : fewP p = true) : FitP p := by
  simp only [fewP, Bool.and_eq_true, decide_eq_true_eq, List.all_eq_true] at h
  refine ⟨by omega, fun b hb => ?_⟩
  have := h.2 b hb
  simp only [fewB, Bool.and_eq_true, decide_eq_true_eq, List.all_eq_true] at this
  refine ⟨by omega, by omega, fun x hx => ?_⟩
  have := this.2 x hx
  simp only [fewI, Bool.and_eq_true, decide_eq_true_eq] at this
  exact ⟨by omega, by omega, by omega⟩

theorem awake_p : Pure T 11 [] (.bool true) false := Pure_of_CE (c := c11) awake_ce rfl rfl rfl
theorem awake_r {h : AH} {d : Option Nat} {r : List COper} {κ : List KF} {s : Fr} {Q : Fr → AH → Prop} : pureK T 11 (some []) false h d r κ s Q = WR T r κ (Fr.put s d (.bool true)) h Q := pureK_eq awake_p (.inr rfl)

theorem BlocksNext_p (p : LProc) : Pure T 3 [.agg (Enc.c p)] (.bool true) true := by
  refine ⟨c3, rfl, rfl, ?_⟩
  simp [c3, few_r p]
  refine condS_split (fun hc => ?_) (fun hc => ?_) <;> simp at hc
  · simp [awake_r]
  have hp := few_fit hc
  have hp1 := hp.1
  simp
  refine WK_range tgrow (fun k s' h' => True) p.blocks.length w3_0 rfl (by decide) (by simp) (by simp) (by omega) (by decide) (fun _ _ _ _ j _ => j) trivial ?_ ?_
  · intro k s' h' hk _ hi hs hg
    have f10 : s' 10 = sl p.blocks := (hs 10 (by decide)).trans (by simp)
    have hlo := hg.low (by simp)
    have fb := hp.2 _ (List.getElem_mem hk)
    have hnl : (Go.Proofs.Ytpdgjdnipkmocaa.next p.blocks[k]).length ≤ 1000 := by
      have := jump_len hp (k : Int)
      simpa [succ, hk] using this
    simp [hi, f10, evIdx_nat, rds_ptr, hk, hlo, next_r p.blocks[k] fb, nextR_r p.blocks[k] fb, equal_r _ _ (show (Go.Proofs.Ytpdgjdnipkmocaa.next p.blocks[k]).length ≤ 100000 by omega)]
  · intro s' h' _ hs hg
    have f1 : s' 1 = .pi (Enc.c p) := (hs 1 (by decide)).trans (by simp)
    have h1 := reached_len p
    have h2 : (loops p).length ≤ (reached p).length := List.length_filter_le _ _
    simp [f1, reached_r p hp, reachedR_r p hp, equal_r _ _ (show (reached p).length ≤ 100000 by omega), loops_r p hp, loopsR_r p hp, equal_r _ _ (show (loops p).length ≤ 100000 by omega), awake_r]

theorem law_blocksNext (x : shProc.den) (o : shProc.ok x) : ∃ g, CE T 3 [.agg (shProc.pv x)] AH.zero (.bool true) g := by
  rw [mkProc_c]
  exact ⟨AH.zero, (BlocksNext_p (mkProc x)).ce (by simp) (.inl rfl)⟩
end Go.Proofs.Ytpdgjdnipkmocaa

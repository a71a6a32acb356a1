/- Chapter 46: what 'Check' says of a list of registers. -/
import Derived.Test.YtbnfcdjlbabddaaF1
set_option linter.unusedVariables false
set_option linter.unusedSimpArgs false
namespace Go.Proofs.Ytbnfcdjlbabddaa
open Go.Ev

/-- A variable's register. -/
def rg (regs : List Int) (v : Int) : Int := (regs[v.toNat]?).getD (-1)
theorem rg_get {regs : List Int} {k : Nat} (hk : k < regs.length) : rg regs (k : Nat) = regs[k] := by simp [rg, hk]
def badR (f : LFun) (vs regs : List Int) (v : Int) : Bool :=
  (decide (0 ≤ newNo f vs v) && (decide (rg regs v < 0) || decide (16 ≤ rg regs v))) || (decide (newNo f vs v < 0) && !decide (rg regs v = -1))
def badP (regs : List Int) (v : Int) : Bool := !decide (rg regs v = v)
def badU (L : List (List Int)) (regs : List Int) (a b : Int) : Bool := !(decide (rg regs a < 0) || !decide (rg regs a = rg regs b)) && meet L a b
def checkT (f : LFun) (t : Tr) (regs : List Int) : Int :=
  if regs.length ≠ f.vars.length then 6
  else if (nums f.vars.length).any (badR f (bnd f t) regs) then 2
  else if (nums f.params.toNat).any (badP regs) then 1
  else if (nums f.vars.length).any fun a => (nums a.toNat).any fun b => badU (allS f t) regs a b then 12
  else 0
noncomputable def checkV (f : LFun) (regs : List Int) : Int := match treeS f with
  | none => 3
  | some t => checkT f t regs
theorem mem_nums {n : Nat} {x : Int} : x ∈ nums n ↔ 0 ≤ x ∧ x < (n : Int) := by
  unfold nums
  rw [List.mem_map]
  constructor
  · rintro ⟨k, hk, rfl⟩
    have := List.mem_range.1 hk
    omega
  · rintro ⟨h0, h1⟩
    exact ⟨x.toNat, List.mem_range.2 (by omega), by omega⟩
theorem mem_nums' {n k : Nat} (hk : k < n) : (k : Int) ∈ nums n := mem_nums.2 ⟨by omega, by omega⟩
/-- Whether some number is bad: said by a loop. -/
theorem any_nums_no {n : Nat} {p : Int → Bool} (h : ∀ k : Nat, k < n → p (k : Nat) = false) : (nums n).any p = false := by
  rw [List.any_eq_false]
  intro x hx
  obtain ⟨h0, h1⟩ := mem_nums.1 hx
  have := h x.toNat (by omega)
  rw [Int.toNat_of_nonneg h0] at this
  rw [this]; simp
theorem any_nums_yes {n k : Nat} {p : Int → Bool} (hk : k < n) (h : p (k : Nat) = true) : (nums n).any p = true := List.any_eq_true.2 ⟨_, mem_nums' hk, h⟩

theorem shaped46_p (f : LFun) (hf : FitF f) : Pure T 44 [.agg (Enc.c f)] (.bool (treeS f).isSome) true := by
  obtain ⟨v, hv, hP⟩ := maps_p f hf
  have hr := fun {o h d r κ s Q} => pureK_eq (o := o) (h := h) (d := d) (r := r) (κ := κ) (s := s) (Q := Q) hP (.inl rfl)
  refine ⟨c44, rfl, rfl, ?_⟩
  rcases hv with ⟨t, nd, vs, h1, h2, h3, rfl⟩ | ⟨h1, h2, rfl⟩ | ⟨h1, rfl⟩
  · simp only [c_LFun, h2] at hr
    simp [c44, hr, h2, treeS, h1, h3]
  · simp only [c_LFun, h2] at hr
    simp [c44, hr, h2, treeS, h1]
  · have : treeS f = none := by
      unfold treeS
      split
      · rename_i hc
        rcases h1 with q | q
        · exact absurd hc.1 q
        · rw [q.2]; rfl
      · rfl
    simp only [c_LFun] at hr
    simp [c44, hr, this]
section
variable {o : Bool} {h : AH} {d : Option Nat} {r : List COper} {κ : List KF} {s : Fr} {Q : Fr → AH → Prop}
theorem shaped46_r (f : LFun) (hf : FitF f) : pureK T 44 (some [.agg [PV.str f.name, PV.int .i64 f.params, PV.int .i64 f.result, sl f.vars, sl f.code, PV.int .i64 f.body, PV.bool f.extern]]) o h d r κ s Q = WR T r κ (Fr.put s d (.bool (treeS f).isSome)) h Q := pureK_eq (shaped46_p f hf) (.inl rfl)
end
theorem maps_yes (f : LFun) (hf : FitF f) {t : Tr} (ht : treeS f = some t) : ∃ nd : List Int, Pure T 22 [.agg (Enc.c f)] (.tup [sl (mapN f nd), sl (mapV f (bnd f t)), .int .i64 0]) true := by
  obtain ⟨v, hv, hP⟩ := maps_p f hf
  obtain ⟨hokp, hext, nd, vs, hS⟩ := treeS_some ht
  rcases hv with ⟨t', nd', vs', h1, h2, h3, rfl⟩ | ⟨h1, h2, _⟩ | ⟨h1, rfl⟩
  · rw [hS] at h3; cases h3
    obtain ⟨_, _, _, rfl, _⟩ := shapeS_ok hS
    exact ⟨nd, hP⟩
  · rw [hext] at h2; cases h2
  · rcases h1 with q | q
    · exact absurd hokp q
    · rw [hS] at q; cases q.2

theorem mapV_len (f : LFun) (vs : List Int) : (mapV f vs).length = f.vars.length := by simp [mapV, nums_len]
theorem mapV_get (f : LFun) (vs : List Int) {k : Nat} (hk : k < (mapV f vs).length) : (mapV f vs)[k] = newNo f vs (k : Nat) := by simp [mapV, nums]

theorem check_p (f : LFun) (hf : FitF f) (regs : List Int) : Pure T 27 [.agg (Enc.c f), sl regs] (.int .i64 (checkV f regs)) true := by
  refine ⟨c27, rfl, rfl, ?_⟩
  cases ht : treeS f with
  | none => simp [c27, shaped46_r f hf, ht, checkV]
  | some t =>
    obtain ⟨hok, _, hnp, hsz, hpo⟩ := treeS_ok ht
    obtain ⟨nd, hP⟩ := maps_yes f hf ht
    have hr := fun {o h d r κ s Q} => pureK_eq (o := o) (h := h) (d := d) (r := r) (κ := κ) (s := s) (Q := Q) hP (.inl rfl)
    simp only [c_LFun] at hr
    have c80 := hf.code
    have v120 := hf.vars
    have hml := mapV_len f (bnd f t)
    by_cases hlen : regs.length = f.vars.length
    case neg =>
      have hlen' : ¬ (regs.length : Int) = (f.vars.length : Int) := by omega
      have e : checkV f regs = 6 := by simp [checkV, ht, checkT, hlen]
      simp [c27, shaped46_r f hf, ht, hlen', e]
    simp [c27, shaped46_r f hf, ht, hlen, hr]
    obtain ⟨W, hW⟩ : ∃ W, W = mapV f (bnd f t) := ⟨_, rfl⟩
    have hWl : W.length = f.vars.length := by rw [hW, hml]
    have hWg : ∀ k (hk : k < W.length), W[k] = newNo f (bnd f t) (k : Nat) := by subst hW; exact fun k hk => mapV_get f _ hk
    rw [← hW]
    clear hW hml
    refine WK_range tgrow (fun k s' h' => ∀ j < k, badR f (bnd f t) regs (j : Nat) = false) regs.length w27_0 rfl (by decide) (by simp) (by simp [hlen]) (by omega) (by decide) (fun _ _ _ _ j _ => j) (fun j hj => absurd hj (by omega)) ?_ ?_
    · rintro k s' h' hk hj hi hs hg
      have f30 : s' 30 = sl regs := (hs 30 (by decide)).trans (by simp)
      have f6 : s' 6 = sl W := (hs 6 (by decide)).trans (by simp)
      have hkW : k < W.length := by omega
      have stop : badR f (bnd f t) regs (k : Nat) = true → checkV f regs = 2 := fun q => by
        simp [checkV, ht, checkT, hlen, any_nums_yes (show k < f.vars.length by omega) q]
      have go : badR f (bnd f t) regs (k : Nat) = false → ∀ j < k + 1, badR f (bnd f t) regs (j : Nat) = false := fun q j hj1 => by
        rcases Nat.lt_succ_iff_lt_or_eq.1 hj1 with h | h
        · exact hj j h
        · rw [h]; exact q
      have hbk : ∀ b : Bool, (badR f (bnd f t) regs (k : Nat) = b) = (((decide (0 ≤ W[k]) && (decide (regs[k] < 0) || decide (16 ≤ regs[k]))) || (decide (W[k] < 0) && !decide (regs[k] = -1))) = b) := fun b => by
        unfold badR; rw [rg_get hk, hWg k hkW]
      by_cases w0 : 0 ≤ W[k]
      · have w1 : ¬ W[k] < 0 := by omega
        by_cases r0 : regs[k] < 0
        · have e := stop ((hbk true).mpr (by simp [w0, r0]))
          simp [hi, f30, f6, evIdx_nat, rd1_ptr, hk, hkW, w0, w1, r0, e]
        · by_cases r1 : 16 ≤ regs[k]
          · have e := stop ((hbk true).mpr (by simp [w0, r1]))
            simp [hi, f30, f6, evIdx_nat, rd1_ptr, hk, hkW, w0, w1, r0, r1, e]
          · have e := go ((hbk false).mpr (by simp [w0, w1, r0, r1]))
            simp [hi, f30, f6, evIdx_nat, rd1_ptr, hk, hkW, w0, w1, r0, r1]
            exact e
      · have w1 : W[k] < 0 := by omega
        by_cases r0 : regs[k] = -1
        · have e := go ((hbk false).mpr (by simp [w0, w1, r0]))
          simp [hi, f30, f6, evIdx_nat, rd1_ptr, hk, hkW, w0, w1, r0]
          exact e
        · have e := stop ((hbk true).mpr (by simp [w0, w1, r0]))
          simp [hi, f30, f6, evIdx_nat, rd1_ptr, hk, hkW, w0, w1, r0, e]
    intro s1 h1 j1 hs1 hg1
    have n1 : (nums f.vars.length).any (badR f (bnd f t) regs) = false := any_nums_no fun k hk => j1 k (by omega)
    have p1 : s1 1 = sl regs := (hs1 1 (by decide)).trans (by simp)
    have p2 : s1 2 = .pi (Enc.c f) := (hs1 2 (by decide)).trans (by simp)
    obtain ⟨P, hPp⟩ : ∃ P : Nat, f.params = (P : Nat) := ⟨f.params.toNat, by have := hpo.1; omega⟩
    have hPv : P ≤ f.vars.length := by have := hpo.2; omega
    have hPt : f.params.toNat = P := by omega
    simp [p2, hPp]
    refine WK_range tgrow (fun k s' h' => ∀ j < k, badP regs (j : Nat) = false) P w27_1 rfl (by decide) (by simp) (by simp) (by omega) (by decide) (fun _ _ _ _ j _ => j) (fun j hj => absurd hj (by omega)) ?_ ?_
    · rintro k s' h' hk hj hi hs hg
      have f1 : s' 1 = sl regs := (hs 1 (by decide)).trans (by simp [p1])
      have hkr : k < regs.length := by omega
      by_cases r0 : regs[k] = (k : Int)
      · have e : badP regs (k : Nat) = false := by simp [badP, rg_get hkr, r0]
        simp [hi, f1, evIdx_nat, rd1_ptr, hkr, r0]
        intro j hj1
        rcases Nat.lt_succ_iff_lt_or_eq.1 hj1 with h | h
        · exact hj j h
        · rw [h]; exact e
      · have e : badP regs (k : Nat) = true := by simp [badP, rg_get hkr, r0]
        have e2 : checkV f regs = 1 := by
          simp [checkV, ht, checkT, hlen, n1, any_nums_yes (show k < f.params.toNat by omega) e]
        simp [hi, f1, evIdx_nat, rd1_ptr, hkr, r0, e2]
    intro s2 h2 j2 hs2 hg2
    have n2 : (nums f.params.toNat).any (badP regs) = false := any_nums_no fun k hk => j2 k (by omega)
    have q1 : s2 1 = sl regs := (hs2 1 (by decide)).trans (by simp [p1])
    have q2 : s2 2 = .pi (Enc.c f) := (hs2 2 (by decide)).trans (by simp [p2])
    simp [q1, hlen]
    refine WK_range tgrow (fun k s' h' => ∀ a < k, ∀ b < a, badU (allS f t) regs (a : Nat) (b : Nat) = false) f.vars.length w27_2 rfl (by decide) (by simp) (by simp) (by omega) (by decide) (fun _ _ _ _ j _ => j) (fun j hj => absurd hj (by omega)) ?_ ?_
    · intro a s3 h3 ha j3 hi3 hs3 hg3
      have r1 : s3 1 = sl regs := (hs3 1 (by decide)).trans (by simp [q1])
      have r2 : s3 2 = .pi (Enc.c f) := (hs3 2 (by decide)).trans (by simp [q2])
      simp [hi3]
      refine WK_range tgrow (fun k s' h' => ∀ b < k, badU (allS f t) regs (a : Nat) (b : Nat) = false) a w27_3 rfl (by decide) (by simp) (by simp [hi3]) (by omega) (by decide) (fun _ _ _ _ j _ => j) (fun j hj => absurd hj (by omega)) ?_ ?_
      · intro b s4 h4 hb j4 hi4 hs4 hg4
        have t1 : s4 1 = sl regs := (hs4 1 (by decide)).trans (by simp [r1])
        have t2 : s4 2 = .pi (Enc.c f) := (hs4 2 (by decide)).trans (by simp [r2])
        have t11 : s4 11 = .int .i64 (a : Nat) := (hs4 11 (by decide)).trans (by simp [hi3])
        have har : a < regs.length := by omega
        have hbr : b < regs.length := by omega
        have k3 := fun {o h d r κ s Q} => pureK_eq (o := o) (h := h) (d := d) (r := r) (κ := κ) (s := s) (Q := Q) (inter_yes f hf (a := (a : Nat)) (b := (b : Nat)) ht ⟨by omega, by omega⟩ ⟨by omega, by omega⟩) (.inl rfl)
        simp only [c_LFun] at k3
        have ebu : ∀ c : Bool, (badU (allS f t) regs (a : Nat) (b : Nat) = c) = ((!(decide (regs[a] < 0) || !decide (regs[a] = regs[b])) && meet (allS f t) (a : Nat) (b : Nat)) = c) := fun c => by
          unfold badU; rw [rg_get har, rg_get hbr]
        have go : badU (allS f t) regs (a : Nat) (b : Nat) = false → ∀ j < b + 1, badU (allS f t) regs (a : Nat) (j : Nat) = false := fun q j hj1 => by
          rcases Nat.lt_succ_iff_lt_or_eq.1 hj1 with h | h
          · exact j4 j h
          · rw [h]; exact q
        by_cases x0 : regs[a] < 0
        · have e := go ((ebu false).mpr (by simp [x0]))
          simp [hi4, t1, t11, evIdx_nat, rd1_ptr, har, hbr, x0]
          exact e
        by_cases x1 : regs[a] = regs[b]
        case neg =>
          have e := go ((ebu false).mpr (by simp [x0, x1]))
          simp [hi4, t1, t11, evIdx_nat, rd1_ptr, har, hbr, x0, x1]
          exact e
        have x0' : ¬ regs[b] < 0 := by omega
        cases hm : meet (allS f t) (a : Nat) (b : Nat) with
        | false =>
          have e := go ((ebu false).mpr (by simp [x0, x1, hm]))
          simp only [hm] at k3
          simp [hi4, t1, t2, t11, evIdx_nat, rd1_ptr, har, hbr, x0, x0', x1, k3]
          exact e
        | true =>
          have e := (ebu true).mpr (by simp [x0, x0', x1, hm])
          have e2 : checkV f regs = 12 := by
            have : (nums f.vars.length).any (fun a => (nums a.toNat).any fun b => badU (allS f t) regs a b) = true := any_nums_yes (show a < f.vars.length by omega) (by
              rw [Int.toNat_natCast]; exact any_nums_yes hb e)
            simp [checkV, ht, checkT, hlen, n1, n2, this]
          simp only [hm] at k3
          simp [hi4, t1, t2, t11, evIdx_nat, rd1_ptr, har, hbr, x0, x0', x1, k3, e2]
      · intro s4 h4 j4 hs4 hg4
        have t76 : s4 76 = .int .i64 (a : Nat) := (hs4 76 (by decide)).trans (by simp [hi3])
        simp [t76]
        intro x hx b hb
        rcases Nat.lt_succ_iff_lt_or_eq.1 hx with h | h
        · exact j3 x h b hb
        · subst h; exact j4 b hb
    · intro s3 h3 j3 hs3 hg3
      have : (nums f.vars.length).any (fun a => (nums a.toNat).any fun b => badU (allS f t) regs a b) = false := any_nums_no fun a ha => by
        rw [Int.toNat_natCast]
        exact any_nums_no fun b hb => j3 a ha b hb
      have e2 : checkV f regs = 0 := by
        simp [checkV, ht, checkT, hlen, n1, n2, this]
      simp [e2]
section
variable {o : Bool} {h : AH} {d : Option Nat} {r : List COper} {κ : List KF} {s : Fr} {Q : Fr → AH → Prop}
theorem check_r (f : LFun) (hf : FitF f) (regs : List Int) : pureK T 27 (some [.agg [PV.str f.name, PV.int .i64 f.params, PV.int .i64 f.result, sl f.vars, sl f.code, PV.int .i64 f.body, PV.bool f.extern], sl regs]) o h d r κ s Q = WR T r κ (Fr.put s d (.int .i64 (checkV f regs))) h Q := pureK_eq (check_p f hf regs) (.inl rfl)
end
end Go.Proofs.Ytbnfcdjlbabddaa

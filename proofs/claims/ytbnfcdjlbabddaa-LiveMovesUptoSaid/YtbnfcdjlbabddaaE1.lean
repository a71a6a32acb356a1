/- Which functions the statements of chapter 45 look at. -/
import Derived.Test.YtbnfcdjlbabddaaD4
import Derived.Test.YtbnfcdjlbabddaaAwake
set_option linter.unusedVariables false
set_option linter.unusedSimpArgs false
namespace Go.Proofs.Ytbnfcdjlbabddaa
open Go.Ev

def fewN (n : LNode) : Bool := n.args.length ≤ 12 && n.more.length ≤ 12 && n.branches.length ≤ 20 && n.branches.all fun b => decide (b.binds.length ≤ 12)
def fewF (f : LFun) : Bool := f.name.size ≤ 100 && f.vars.length ≤ 120 && f.code.length ≤ 80 && decide (f.params ≤ 200) && f.code.all fewN
theorem few_in2 (l : List LBranch) (hl : l.length ≤ 20) {κ : List KF} {s : Fr} {h : AH} {Q : Fr → AH → Prop} (e111 : s 111 = sl l) (e112 : s 112 = .int .i64 l.length) (e113 : s 113 = .int .i64 0) (hlw : h.lo ≤ h.nx)
   (h1 : (l.all fun b => decide (b.binds.length ≤ 12)) = true → ∀ s' h', (∀ t, t ∉ w32_4 → s' t = s t) → Grow h h' → WK T .skip κ s' h' Q)
   (h2 : (l.all fun b => decide (b.binds.length ≤ 12)) = false → ∀ s' h', s' 2 = .bool false → Q s' h') : WK T (.loop c32_4) (.block 8 :: κ) s h Q := by
  refine WK_range tgrow (fun k s h => ∀ x ∈ l.take k, x.binds.length ≤ 12) l.length w32_4 rfl (by decide) e113 e112 (by omega) (by decide) (fun _ _ _ _ j _ => j) (by simp) ?_ ?_
  · intro k s' h' hk hj hi hs hg
    have f111 : s' 111 = sl l := (hs 111 (by decide)).trans e111
    have hlw' : h'.lo ≤ h'.nx := hg.low hlw
    simp [hi, f111, evIdx_nat, rds_ptr, hk, hlw']
    refine condS_split (fun hc => ?_) (fun hc => ?_) <;> simp at hc
    · simp
      refine h2 ?_ _ _ (by simp)
      rw [List.all_eq_false]
      exact ⟨_, List.getElem_mem hk, by simp; omega⟩
    · simp [hi]
      exact mem_take_succ (P := fun x : LBranch => x.binds.length ≤ 12) hk hj (by omega)
  · intro s' h' hj hs hg
    rw [List.take_length] at hj
    exact h1 (List.all_eq_true.2 fun x hx => by simpa using hj x hx) s' h' hs hg
theorem few_in1 (l : List LNode) (hl : l.length ≤ 80) {κ : List KF} {s : Fr} {h : AH} {Q : Fr → AH → Prop} (e88 : s 88 = sl l) (e89 : s 89 = .int .i64 l.length) (e90 : s 90 = .int .i64 0) (hlw : h.lo ≤ h.nx)
   (h1 : l.all fewN = true → ∀ s' h', (∀ t, t ∉ w32_3 → s' t = s t) → Grow h h' → WK T .skip κ s' h' Q)
   (h2 : l.all fewN = false → ∀ s' h', s' 2 = .bool false → Q s' h') : WK T (.loop c32_3) (.block 6 :: κ) s h Q := by
  refine WK_range tgrow (fun k s h => ∀ x ∈ l.take k, fewN x = true) l.length w32_3 rfl (by decide) e90 e89 (by omega) (by decide) (fun _ _ _ _ j _ => j) (by simp) ?_ ?_
  · intro k s' h' hk hj hi hs hg
    have f88 : s' 88 = sl l := (hs 88 (by decide)).trans e88
    have hlw' : h'.lo ≤ h'.nx := hg.low hlw
    have bad : fewN l[k] = false → ∀ s' h', s' 2 = .bool false → Q s' h' := fun q => h2 (List.all_eq_false.2 ⟨_, List.getElem_mem hk, by rw [q]; simp⟩)
    simp [hi, f88, evIdx_nat, rds_ptr, hk, hlw']
    (repeat' ((first | refine gdS_split (fun hc => ?_) (fun hc => ?_) | refine condS_split (fun hc => ?_) (fun hc => ?_)) <;> (try simp at hc) <;> (try simp [hc, hi])))
    all_goals first
      | (refine bad ?_ _ _ (by simp)
         unfold fewN
         simp only [Bool.and_eq_false_iff, decide_eq_false_iff_not]
         omega)
      | skip
    refine few_in2 l[k].branches (by omega) (by simp) (by simp) (by simp) (by simp; omega) (fun q s2 h2' hs2 hg2 => ?_) (fun q s2 h2' e2 => ?_)
    · have e90' : s2 90 = .int .i64 (k : Nat) := (hs2 90 (by decide)).trans (by simp [hi])
      simp [e90']
      refine mem_take_succ (P := fun x : LNode => fewN x = true) hk hj ?_
      simp only [fewN, Bool.and_eq_true, decide_eq_true_eq]
      exact ⟨⟨⟨by omega, by omega⟩, by omega⟩, q⟩
    · exact bad (by unfold fewN; rw [q]; simp) _ _ e2
  · intro s' h' hj hs hg
    rw [List.take_length] at hj
    exact h1 (List.all_eq_true.2 hj) s' h' hs hg
theorem few20_p (f : LFun) : Pure T 32 [.agg [sl ([] : List Int), sl [f]]] (.bool (fewF f)) true := by
  refine ⟨c32, rfl, rfl, ?_⟩
  simp [c32]
  refine WK_range tgrow (fun k s h => True) 0 w32_0 rfl (by decide) (by simp) (by simp) (by omega) (by decide) (fun _ _ _ _ j _ => j) trivial (fun k s' h' hk => absurd hk (by omega)) ?_
  rintro s1 h1 _ hs1 hg1
  have f1 : s1 1 = .pi [sl ([] : List Int), sl [f]] := (hs1 1 (by decide)).trans (by simp)
  have hlw1 : h1.lo ≤ h1.nx := hg1.low (by simp)
  simp [f1]
  refine WK_range tgrow (fun k s h => k = 1 → fewF f = true) 1 w32_2 rfl (by decide) (by simp) (by simp) (by omega) (by decide) (fun _ _ _ _ j _ => j) (by simp) ?_ ?_
  · intro k s' h' hk _ hi hs hg
    have hk0 : k = 0 := by omega
    subst hk0
    have f60 : s' 60 = sl [f] := (hs 60 (by decide)).trans (by simp)
    have hlw' : h'.lo ≤ h'.nx := hg.low hlw1
    have e1 : evIdx 7 (sl [f]) 0 = some (ptr [f] 0 0) := evIdx_nat (l := [f]) (k := 0) rfl (by simp)
    have e2 : ∀ h : AH, rds h (ptr [f] 0 0) 7 = some (Enc.c f) := fun h => by rw [rds_ptr (by simp) (by simp)]; rfl
    have bad : fewF f = false → ∀ s'' h'', s'' 2 = .bool false → (fun (s' : Fr) (h1 : AH) => snap h1 12 (s' 2) = some (.bool (fewF f)) ∧ noImm h1 12 (s' 2) = true) s'' h'' := fun q s'' h'' e => by
      simp [e, q]
    simp [hi, f60, e1, e2, hlw']
    (repeat' ((first | refine gdS_split (fun hc => ?_) (fun hc => ?_) | refine condS_split (fun hc => ?_) (fun hc => ?_)) <;> (try simp at hc) <;> (try simp [hc, hi])))
    all_goals first
      | (have : fewF f = false := by
           unfold fewF
           simp only [Bool.and_eq_false_iff, decide_eq_false_iff_not]
           omega
         simp [this]; done)
      | skip
    refine few_in1 f.code (by omega) (by simp) (by simp) (by simp) (by simp; omega) (fun q s2 h2 hs2 hg2 => ?_) (fun q s2 h2 e2 => ?_)
    · have e62 : s2 62 = .int .i64 0 := (hs2 62 (by decide)).trans (by simp [hi])
      simp [e62]
      unfold fewF
      simp only [Bool.and_eq_true, decide_eq_true_eq]
      exact ⟨⟨⟨⟨by omega, by omega⟩, by omega⟩, by omega⟩, q⟩
    · have : fewF f = false := by
        unfold fewF; rw [q]; simp
      simp [e2, this]
  · intro s' h' hj hs hg
    simp [hj rfl]

def few45 (f : LFun) : Bool := fewF f && decide (f.code.length ≤ 60)
section
variable {o : Bool} {h : AH} {d : Option Nat} {r : List COper} {κ : List KF} {s : Fr} {Q : Fr → AH → Prop}
theorem few45_p (f : LFun) : Pure T 13 [.agg (Enc.c f)] (.bool (few45 f)) true := by
  have hr := fun {o h d r κ s Q} => pureK_eq (o := o) (h := h) (d := d) (r := r) (κ := κ) (s := s) (Q := Q) (few20_p f) (.inl rfl)
  have e : sl [f] = .sl 1 [PV.str f.name, PV.int .i64 f.params, PV.int .i64 f.result, sl f.vars, sl f.code, PV.int .i64 f.body, PV.bool f.extern] := rfl
  rw [e] at hr
  refine ⟨c13, rfl, rfl, ?_⟩
  simp [c13, hr]
  cases hc : fewF f
  · simp [few45, hc]
  · simp [few45, hc]
    omega
theorem few45_r (f : LFun) : pureK T 13 (some [.agg [PV.str f.name, PV.int .i64 f.params, PV.int .i64 f.result, sl f.vars, sl f.code, PV.int .i64 f.body, PV.bool f.extern]]) o h d r κ s Q = WR T r κ (Fr.put s d (.bool (few45 f))) h Q := pureK_eq (few45_p f) (.inl rfl)
theorem awake45_p : Pure T 12 [] (.bool true) false := Pure_of_CE awake45_ce rfl rfl rfl
theorem awake45_r : pureK T 12 (some []) false h d r κ s Q = WR T r κ (Fr.put s d (.bool true)) h Q := pureK_eq awake45_p (.inr rfl)
end
theorem few45_fit {f : LFun} (h : few45 f = true) : FitF f := by
  simp only [few45, fewF, Bool.and_eq_true, decide_eq_true_eq] at h
  obtain ⟨⟨⟨⟨⟨_, h1⟩, h2⟩, _⟩, h3⟩, _⟩ := h
  refine ⟨h1, h2, fun n hn => ?_⟩
  have := List.all_eq_true.1 h3 n hn
  simp only [fewN, Bool.and_eq_true, decide_eq_true_eq, List.all_eq_true] at this
  obtain ⟨⟨⟨a1, a2⟩, a3⟩, a4⟩ := this
  exact ⟨by omega, by omega, a3, fun b hb => by have := a4 b hb; omega⟩
end Go.Proofs.Ytbnfcdjlbabddaa

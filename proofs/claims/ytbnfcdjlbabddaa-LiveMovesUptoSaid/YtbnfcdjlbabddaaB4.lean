/- The shape of a function: the program's 'shaped'. -/
import Derived.Test.YtbnfcdjlbabddaaB3
set_option linter.unusedVariables false
set_option linter.unusedSimpArgs false
namespace Go.Proofs.Ytbnfcdjlbabddaa
open Go.Ev

/-- The parameters are variables. -/
def okP (f : LFun) : Prop := 0 ≤ f.params ∧ f.params ≤ (f.vars.length : Int)
open Classical in
/-- The tree of a function's nodes, the nodes in the order of the visits, the variables in the order in which they are bound. -/
noncomputable def shapeS (f : LFun) : Option (Tr × List Int × List Int) :=
  if 0 ≤ f.body ∧ f.body < (f.code.length : Int) then shV f (f.code.length + 1) f.body [] [] [] else none

theorem rep_bls (n : Nat) : (List.replicate n [PV.bool false]).flatten = bls n fun _ => false := by
  apply List.ext_getElem?
  intro i
  by_cases hi : i < n
  · rw [bls_get hi]
    simp [hi]
  · rw [List.getElem?_eq_none (by simp; omega), List.getElem?_eq_none (by simp; omega)]

theorem rep_one (n : Nat) : List.replicate n (PV.bool false) = bls n fun _ => false := by rw [← rep_bls]; simp

/-- What 'shaped' gives back. -/
def shRes (f : LFun) (v : PV) : Prop :=
  (∃ t nd vs, okP f ∧ f.extern = false ∧ shapeS f = some (t, nd, vs) ∧ v = .tup [sl nd, sl vs, .bool true]) ∨ (okP f ∧ f.extern = true ∧ v = .tup [sl ([] : List Int), sl ([] : List Int), .bool true]) ∨
    (∃ l l' : List Int, (¬ okP f ∨ (f.extern = false ∧ shapeS f = none)) ∧ v = .tup [sl l, sl l', .bool false])

/-- A pure function whose result is found while its code is walked. -/
theorem Pure_ex {R : PV → Prop} {g : Nat} {c : CFun} {xs : List PV} {sc : Bool} (hT : T g = some (.code c)) (hc : c.pure = true)
    (hw : WK T c.body [] (initFr xs) AH.zero (fun s' h1 => ∃ v, R v ∧ ∃ r0, resOf c.res s' h1 = some r0 ∧ snap h1 snapDepth r0 = some v ∧ (sc = true → noImm h1 snapDepth r0 = true))) : ∃ v, R v ∧ Pure T g xs v sc := by
  obtain ⟨n, ex, s', h1, e, q⟩ := hw
  cases ex with
  | exit i => exact q.elim
  | nrm =>
    obtain ⟨v, hv, q⟩ := q
    exact ⟨v, hv, c, hT, hc, n, .nrm, s', h1, e, q⟩
  | ret =>
    obtain ⟨v, hv, q⟩ := q
    exact ⟨v, hv, c, hT, hc, n, .ret, s', h1, e, q⟩

theorem shaped_p (f : LFun) (hf : FitF f) : ∃ v, shRes f v ∧ Pure T 39 [.agg (Enc.c f)] v true := by
  have c80 := hf.code
  have v120 := hf.vars
  by_cases hp : okP f
  case neg =>
    refine ⟨_, .inr (.inr ⟨[], [], .inl hp, rfl⟩), c39, rfl, rfl, ?_⟩
    simp [c39]
    unfold okP at hp
    by_cases h0 : f.params < 0
    · simp [h0]
    · have h1 : (f.vars.length : Int) < f.params := by omega
      simp [h0, h1]
  have hp0 : ¬ f.params < 0 := by have := hp.1; omega
  have hp1 : ¬ (f.vars.length : Int) < f.params := by have := hp.2; omega
  cases he : f.extern
  case true =>
    refine ⟨_, .inr (.inl ⟨hp, he, rfl⟩), c39, rfl, rfl, ?_⟩
    simp [c39, hp0, hp1, he]
  have hmk : ∀ {h : AH} {n : Nat}, n ≤ 120 → evMks h 1 1 [.bool false] (.int .i64 (n : Int)) (.int .i64 (n : Int)) = some (.rf 1 h.nx 0 n, h.push (.cells (List.replicate n [.bool false]).flatten)) := fun hn => evMks_nat (room (by omega))
  have n80 : f.code.length ≤ 120 := by omega
  obtain ⟨P, hP⟩ : ∃ P : Nat, f.params = (P : Nat) := ⟨f.params.toNat, by omega⟩
  have hPv : P ≤ f.vars.length := by omega
  refine Pure_ex (c := c39) rfl rfl ?_
  have fin : ∀ (t : Bool) (nv vv : PV) (nd vs : List Int) (s1 : Fr) (h1 : AH), s1 2 = nv → s1 3 = vv → s1 4 = .bool t → Acc h1 nv 1 (nd.map Enc.c).flatten nd.length → Acc h1 vv 1 (vs.map Enc.c).flatten vs.length → shRes f (.tup [sl nd, sl vs, .bool t]) →
      ∃ v, shRes f v ∧ ∃ r0, resOf c39.res s1 h1 = some r0 ∧ snap h1 snapDepth r0 = some v ∧ (true = true → noImm h1 snapDepth r0 = true) := fun t nv vv nd vs s1 h1 e2 e3 e4 a0 a1 hr =>
    ⟨_, hr, .tup [nv, vv, .bool t], by simp [c39, e2, e3, e4], by simp [a0.snap rfl, a1.snap rfl], fun _ => by simp [a0.freshInts, a1.freshInts]⟩
  generalize hE : (fun (s' : Fr) (h1 : AH) => ∃ v, shRes f v ∧ ∃ r0, resOf c39.res s' h1 = some r0 ∧ snap h1 snapDepth r0 = some v ∧ (true = true → noImm h1 snapDepth r0 = true)) = E
  replace fin : ∀ (t : Bool) (nv vv : PV) (nd vs : List Int) (s1 : Fr) (h1 : AH), s1 2 = nv → s1 3 = vv → s1 4 = .bool t → Acc h1 nv 1 (nd.map Enc.c).flatten nd.length → Acc h1 vv 1 (vs.map Enc.c).flatten vs.length → shRes f (.tup [sl nd, sl vs, .bool t]) → E s1 h1 := fun t nv vv nd vs s1 h1 e2 e3 e4 a0 a1 hr => by
    rw [← hE]; exact fin t nv vv nd vs s1 h1 e2 e3 e4 a0 a1 hr
  clear hE
  simp [c39, hp0, hp1, he, hmk, n80, v120, rep_bls]
  refine WK_range tgrow (fun k s' h' => h'.lo = 0 ∧ h'.nx = 8 ∧ h'.row 0 = some [.emp] ∧ h'.row 1 = some [.emp] ∧ h'.row 2 = some (bls f.code.length fun _ => false) ∧ h'.row 3 = some [.rf 1 2 0 f.code.length] ∧
    h'.row 4 = some (bls f.vars.length fun i => decide (i < (k : Nat))) ∧ h'.row 5 = some [.rf 1 4 0 f.vars.length] ∧ h'.row 6 = some (bls f.vars.length fun i => decide (i < (k : Nat))) ∧ h'.row 7 = some [.rf 1 6 0 f.vars.length]) P w39_0 rfl (by decide) (by simp) (by simp [hP]) (by omega) (by decide) (fun _ _ _ _ j _ => j) ?_ ?_ ?_
  · simp
    have : bls f.vars.length (fun _ => false) = bls f.vars.length fun i => decide (i < 0) := bls_congr fun i h0 _ => by simp; omega
    rw [rep_one, rep_one]
    exact ⟨rfl, this⟩
  · rintro k s' h' hk ⟨j1, j2, j3, j4, j5, j6, j7, j8, j9, j10⟩ hi hs hg
    have f8 : s' 8 = .pt 5 0 := (hs 8 (by decide)).trans (by simp)
    have f9 : s' 9 = .pt 7 0 := (hs 9 (by decide)).trans (by simp)
    have hkv : k < f.vars.length := by omega
    have e : ∀ j : Nat, (bls f.vars.length fun i => if i = (k : Int) then true else decide (i < (k : Nat))) = bls f.vars.length fun i => decide (i < ((k + 1 : Nat) : Int)) := fun _ => bls_congr fun i h0 _ => by
      by_cases q : i = (k : Int)
      · simp [q]; omega
      · simp [q]; omega
    simp [hi, f8, f9, j8, j10, evIdx_rf hkv, j7, j9, hkv, j1, bls_set, j2, j3, j4, j5, j6]
    have := e 0
    simpa using this
  · rintro s' h' ⟨j1, j2, j3, j4, j5, j6, j7, j8, j9, j10⟩ hs hg
    have f1 : s' 1 = .pi (Enc.c f) := (hs 1 (by decide)).trans (by simp [he])
    have f5 : s' 5 = .pt 0 0 := (hs 5 (by decide)).trans (by simp)
    have f6 : s' 6 = .pt 1 0 := (hs 6 (by decide)).trans (by simp)
    have f7 : s' 7 = .pt 3 0 := (hs 7 (by decide)).trans (by simp)
    have f8 : s' 8 = .pt 5 0 := (hs 8 (by decide)).trans (by simp)
    have f9 : s' 9 = .pt 7 0 := (hs 9 (by decide)).trans (by simp)
    simp [f1, f5, f6, f7, f8, f9, j1, j2, j3, j4, j5, j6, j7, j8, j9, j10]
    have hvb1 : 57 < vb := by decide
    have hvb4 : 60 < vb := by decide
    have eb : (fun i : Int => decide (i < (P : Nat))) = bdP f [] := by
      unfold bdP; rw [scPut_nil]; funext i; simp [base, hP]
    rw [eb] at j7 j9
    refine ⟨hvb1, ?_⟩
    refine reach_c (f := f) (rch := mem []) (bd := bdP f []) (sc := bdP f []) (nodes := []) (vars := []) (ok := true) (nv := .emp) (vv := .emp) ?_ f.body (fun hfr h2 m2 g2 => ?_) (fun hnf => ?_)
    · exact ⟨by simp [j1], by simp [j2], by simp [j2, j3], Acc.emp, by simp [j2, j4], Acc.emp, Apart.emp _, (fun i ⟨_, _, _, q⟩ => by cases q), (fun i ⟨_, _, _, q⟩ => by cases q), (by simp [j2, j5]; exact congrArg _ (by funext i; simp [mem])), by simp [j2, j6], by simp [j2, j7], by simp [j2, j8], by simp [j2, j9], by simp [j2, j10],
        by simp [j2], by simp [j2, he], by simp [j2, he], by simp [j2, he], by simp [j2, he]⟩
    · have hb : 0 ≤ f.body ∧ f.body < (f.code.length : Int) := ⟨hfr.1, hfr.2.1⟩
      rw [mem_snoc] at m2
      have hS : shapeS f = shV f (f.code.length + 1) f.body [] [] [] := by unfold shapeS; rw [if_pos hb]
      simp [f1, m2.r12, hvb4]
      refine visit_c hf (f.code.length + 1) f.body [] [] [] .emp .emp ⟨hb.1, hb.2, by simp⟩ (Nums.nil _) (VN.nil _) (fun v q => by cases q) (by simp) m2 (fun t nd vs e h3 nv3 vv3 m3 g3 => ?_) (fun e h3 rch3 bd3 sc3 nd vs nv3 vv3 m3 g3 => ?_)
      · simp [f5, f6, m3.r0, m3.r1, m3.r8]
        exact fin true nv3 vv3 nd vs _ _ (by simp) (by simp) (by simp) m3.a0 m3.a1 (.inl ⟨t, nd, vs, hp, he, hS.trans e, rfl⟩)
      · simp [f5, f6, m3.r0, m3.r1, m3.r8]
        exact fin false nv3 vv3 nd vs _ _ (by simp) (by simp) (by simp) m3.a0 m3.a1 (.inr (.inr ⟨nd, vs, .inr ⟨he, hS.trans e⟩, rfl⟩))
    · have hS : shapeS f = none := by
        unfold shapeS; rw [if_neg fun q => hnf ⟨q.1, q.2, by simp [mem]⟩]
      simp
      exact fin false .emp .emp [] [] _ _ (by simp) (by simp) (by simp) Acc.emp Acc.emp (.inr (.inr ⟨[], [], .inr ⟨he, hS⟩, rfl⟩))
end Go.Proofs.Ytbnfcdjlbabddaa

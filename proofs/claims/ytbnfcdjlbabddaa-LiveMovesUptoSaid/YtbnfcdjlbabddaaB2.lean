/- The shape of a function: marks, bindings, scopes. -/
import Derived.Test.YtbnfcdjlbabddaaB1
set_option linter.unusedVariables false
set_option linter.unusedSimpArgs false
namespace Go.Proofs.Ytbnfcdjlbabddaa
open Go.Ev

section
variable {f : LFun} {rch bd sc : Int → Bool} {nodes vars : List Int} {ok : Bool} {nv vv : PV} {h : AH}
variable {d : Option Nat} {r : List COper} {κ : List KF} {s : Fr} {Q : Fr → AH → Prop}

/-- A node that may be visited. -/
def free (f : LFun) (rch : Int → Bool) (k : Int) : Prop := 0 ≤ k ∧ k < (f.code.length : Int) ∧ rch k = false

theorem reach_c (m : SM f rch bd sc nodes vars ok nv vv h) (k : Int)
    (yes : free f rch k → ∀ h', SM f (fun i => if i = k then true else rch i) bd sc nodes vars ok nv vv h' → Gw h nv vv h' nv vv → WR T r κ (Fr.put s d (.bool true)) h' Q)
    (no : ¬ free f rch k → WR T r κ (Fr.put s d (.bool false)) h Q) : callK T 57 [.int .i64 k, .pi (Enc.c f), .pt 3 0] h d r κ s Q := by
  refine callK_shared (c := c57) rfl rfl rfl ?_
  have lo := m.lo
  simp [c57]
  by_cases h0 : k < 0
  · simp [h0]
    exact no fun q => by have := q.1; omega
  · by_cases h1 : (f.code.length : Int) ≤ k
    · simp [h0, h1]
      exact no fun q => by have := q.2.1; omega
    · have hk : k.toNat < f.code.length := by omega
      have h0' : 0 ≤ k := by omega
      simp [h0, h1, m.r3, evIdx_rfi h0' hk, m.r2, bls_getI h0' hk]
      cases hr : rch k
      · simp [m.r3, evIdx_rfi h0' hk, m.r2, hk, lo]
        exact yes ⟨h0', by omega, hr⟩ _ (m.reach h0') (Gw.set (by omega) _)
      · simp
        exact no fun q => by
          have := q.2.2
          rw [hr] at this; cases this

/-- What is done to a scope. -/
def scPut (sc : Int → Bool) (b : Bool) (l : List Int) : Int → Bool := fun i => if i ∈ l then b else sc i
theorem scPut_nil (sc : Int → Bool) (b : Bool) : scPut sc b [] = sc := by funext i; simp [scPut]
theorem scPut_snoc (sc : Int → Bool) (b : Bool) (l : List Int) (k : Int) : (fun i => if i = k then b else scPut sc b l i) = scPut sc b (l ++ [k]) := by
  funext i
  simp only [scPut, List.mem_append, List.mem_singleton]
  by_cases h1 : i = k
  · simp [h1]
  · simp [h1]

theorem leave_c (m : SM f rch bd sc nodes vars ok nv vv h) (l : List Int) (hl : l.length ≤ 1000) (hb : ∀ v ∈ l, 0 ≤ v ∧ v < (f.vars.length : Int))
    (next : ∀ h', SM f rch bd (scPut sc false l) nodes vars ok nv vv h' → Gw h nv vv h' nv vv → WR T r κ (Fr.put s d (.tup [])) h' Q) : callK T 59 [sl l, .pt 7 0] h d r κ s Q := by
  refine callK_shared (c := c59) rfl rfl rfl ?_
  simp [c59]
  refine WK_range tgrow (fun k s' h' => SM f rch bd (scPut sc false (l.take k)) nodes vars ok nv vv h' ∧ Gw h nv vv h' nv vv) l.length w59_0 rfl (by decide) (by simp) (by simp) (by omega) (by decide) (fun _ _ _ _ j _ => j) (by simp [scPut_nil]; exact ⟨m, Gw.refl _ _ _⟩) ?_ ?_
  · rintro k s' h' hk ⟨jm, jg⟩ hi hs hg
    have f5 : s' 5 = sl l := (hs 5 (by decide)).trans (by simp)
    have f1 : s' 1 = .pt 7 0 := (hs 1 (by decide)).trans (by simp)
    obtain ⟨b0, b1⟩ := hb _ (List.getElem_mem hk)
    have b2 : l[k].toNat < f.vars.length := by omega
    have lo := jm.lo
    simp [hi, f5, f1, evIdx_nat, rd1_ptr, hk, jm.r7, evIdx_rfi b0 b2, jm.r6, lo, b2]
    have := jm.scope (b := false) b0
    rw [scPut_snoc, ← take_succ' hk] at this
    exact ⟨this, jg.trans (Gw.set (by omega) _)⟩
  · rintro s' h' ⟨jm, jg⟩ hs hg
    rw [List.take_length] at jm
    simp
    exact next _ jm jg

/-- A variable that may be bound. -/
def newV (f : LFun) (bd : Int → Bool) (l : List Int) (v : Int) : Prop := 0 ≤ v ∧ v < (f.vars.length : Int) ∧ bd v = false ∧ v ∉ l
/-- All of a list may be bound. -/
def okB (f : LFun) (bd : Int → Bool) (l : List Int) : Prop := ∀ k (hk : k < l.length), newV f bd (l.take k) l[k]

theorem bind_c (m : SM f rch bd sc nodes vars ok nv vv h) (l : List Int) (hl : l.length ≤ 1000) (hv : vars.length ≤ 1000)
    (yes : okB f bd l → ∀ h' vv', SM f rch (scPut bd true l) (scPut sc true l) nodes (vars ++ l) ok nv vv' h' → Gw h nv vv h' nv vv' → WR T r κ (Fr.put s d (.bool true)) h' Q)
    (no : ¬ okB f bd l → ∀ h' bd' sc' vars' vv', SM f rch bd' sc' nodes vars' ok nv vv' h' → Gw h nv vv h' nv vv' → WR T r κ (Fr.put s d (.bool false)) h' Q) : callK T 58 [sl l, .pi (Enc.c f), .pt 5 0, .pt 7 0, .pt 1 0] h d r κ s Q := by
  refine callK_shared (c := c58) rfl rfl rfl ?_
  simp [c58]
  refine WK_range tgrow (fun k s' h' => ∃ vv', SM f rch (scPut bd true (l.take k)) (scPut sc true (l.take k)) nodes (vars ++ l.take k) ok nv vv' h' ∧ Gw h nv vv h' nv vv' ∧ ∀ j (hj : j < l.length), j < k → newV f bd (l.take j) l[j]) l.length w58_0 rfl (by decide) (by simp) (by simp) (by omega) (by decide) (fun _ _ _ _ j _ => j)
    (by refine ⟨vv, ?_, Gw.refl _ _ _, fun j _ hj => absurd hj (by omega)⟩; simpa [scPut_nil] using m) ?_ ?_
  · rintro k s' h' hk ⟨vv', jm, jg, jn⟩ hi hs hg
    have f9 : s' 9 = sl l := (hs 9 (by decide)).trans (by simp)
    have f1 : s' 1 = .pi (Enc.c f) := (hs 1 (by decide)).trans (by simp)
    have f2 : s' 2 = .pt 5 0 := (hs 2 (by decide)).trans (by simp)
    have f3 : s' 3 = .pt 7 0 := (hs 3 (by decide)).trans (by simp)
    have f4 : s' 4 = .pt 1 0 := (hs 4 (by decide)).trans (by simp)
    have lo := jm.lo
    have bad : ¬ newV f bd (l.take k) l[k] → ¬ okB f bd l := fun q o => q (o k hk)
    simp [hi, f9, f1, evIdx_nat, rd1_ptr, hk]
    by_cases h0 : l[k] < 0
    · simp [h0]
      exact no (bad fun q => by have := q.1; omega) _ _ _ _ _ jm jg
    · by_cases h1 : (f.vars.length : Int) ≤ l[k]
      · simp [h0, h1, f1]
        exact no (bad fun q => by have := q.2.1; omega) _ _ _ _ _ jm jg
      · have h0' : 0 ≤ l[k] := by omega
        have hkl : l[k].toNat < f.vars.length := by omega
        simp [h0, h1, f1, f2, jm.r5, evIdx_rfi h0' hkl, jm.r4, bls_getI h0' hkl]
        cases hb : scPut bd true (l.take k) l[k]
        · have hnew : newV f bd (l.take k) l[k] := by
            have hnl : l[k] ∉ l.take k := fun q => by simp [scPut, q] at hb
            refine ⟨h0', by omega, ?_, hnl⟩
            simpa [scPut, hnl] using hb
          have m1 := jm.bind (b := true) h0'
          rw [scPut_snoc, ← take_succ' hk] at m1
          have m2 := m1.scope (b := true) h0'
          rw [scPut_snoc, ← take_succ' hk] at m2
          have g2 := (jg.trans (Gw.set (j := 4) (by omega) (.cells ((bls f.vars.length (scPut bd true (l.take k))).set l[k].toNat (.bool true))))).trans (Gw.set (j := 6) (by omega) (.cells ((bls f.vars.length (scPut sc true (l.take k))).set l[k].toNat (.bool true))))
          simp [f2, f3, f4, jm.r5, jm.r7, jm.r1, evIdx_rfi h0' hkl, jm.r4, jm.r6, lo, hkl, -WR_app]
          generalize (h'.set 4 (.cells ((bls f.vars.length (scPut bd true (l.take k))).set l[k].toNat (.bool true)))).set 6 (.cells ((bls f.vars.length (scPut sc true (l.take k))).set l[k].toNat (.bool true))) = h2 at *
          have lo2 := m2.lo
          have hx2 := m2.nx
          refine WR_app_acc (cs := ((vars ++ l.take k).map Enc.c).flatten) (n := (vars ++ l.take k).length) (m := 1) (ys := [.int .i64 l[k]]) (by simpa using m2.a1) (by simp; exact src_psl rfl) (by rfl) (by omega) (room (by simp; omega)) (fun w h3 ha3 hm3 => ?_)
          simp at hm3
          have ha3' : Acc h3 w 1 ((vars ++ l.take (k + 1)).map Enc.c).flatten (vars ++ l.take (k + 1)).length := by
            rw [take_succ' hk, ← List.append_assoc]
            generalize vars ++ l.take k = M at ha3 ⊢
            simpa using ha3
          have r1 : h3.row 1 = some [vv'] := by rw [hm3.row (by omega) fun z o n e => by have := m2.n1 1 ⟨z, o, n, e⟩; omega]; exact m2.r1
          have lo3 := hm3.grow.1
          obtain ⟨m4, g4⟩ := m2.var ha3' hm3
          simp [f4, r1, ha3'.one, lo3, lo2, hi]
          refine ⟨w, m4, g2.trans g4, fun j hj hjk => ?_⟩
          rcases Nat.lt_or_ge j k with q | q
          · exact jn j hj q
          · have : j = k := by omega
            subst this
            exact hnew
        · simp
          exact no (bad fun q => by
            have := q.2.2
            simp [scPut, this] at hb) _ _ _ _ _ jm jg
  · rintro s' h' ⟨vv', jm, jg, jn⟩ hs hg
    rw [List.take_length] at jm
    simp
    exact yes (fun j hj => jn j hj hj) _ _ jm jg
end
end Go.Proofs.Ytbnfcdjlbabddaa

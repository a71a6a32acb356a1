/- What 'laid' computes, the program's and the reference's. -/
import Derived.Test.YtpdgjdnipkmocaaF2
set_option linter.unusedVariables false
set_option linter.unusedSimpArgs false
namespace Go.Proofs.Ytpdgjdnipkmocaa
open Go.Ev

def endsOk (l : List LInstr) : Prop := ∀ k (hk : k < l.length), isEndOp l[k].op = decide (k = l.length - 1)
instance (l : List LInstr) : Decidable (endsOk l) := inferInstanceAs (Decidable (∀ k (hk : k < l.length), isEndOp l[k].op = decide (k = l.length - 1)))
def lastOk (x : LInstr) : Prop := if x.op = 8 ∨ x.op = 11 then x.jump.length = 1 else x.op = 9 ∨ x.jump.length = 0
instance (x : LInstr) : Decidable (lastOk x) := by unfold lastOk; exact inferInstance
def jumpsOk (n : Nat) (x : LInstr) : Prop := ∀ j ∈ x.jump, 0 ≤ j ∧ j < (n : Int)
instance (n : Nat) (x : LInstr) : Decidable (jumpsOk n x) := by unfold jumpsOk; exact inferInstance
theorem not_jumpsOk {n : Nat} {x : LInstr} (hc : ∃ y, y ∈ x.jump ∧ (y < 0 ∨ (n : Int) ≤ y)) : ¬ jumpsOk n x := by
  obtain ⟨y, hy, hh⟩ := hc
  intro q
  have h3 : 0 ≤ y ∧ y < (n : Int) := q y hy
  omega
def laidB (n : Nat) (b : LBlock) : Prop := ∃ x, b.code.getLast? = some x ∧ endsOk b.code ∧ lastOk x ∧ jumpsOk n x
def laidP (p : LProc) : Prop := (p.extern = true ↔ p.blocks = []) ∧ ∀ b ∈ p.blocks, laidB p.blocks.length b
open Classical in
noncomputable def laid (p : LProc) : Bool := decide (laidP p)

theorem laid_not {p : LProc} (h : ¬ laidP p) : laid p = false := by simp [laid, h]
theorem laid_is {p : LProc} (h : laidP p) : laid p = true := by simp [laid, h]

section
variable {o : Bool} {h : AH} {d : Option Nat} {r : List COper} {κ : List KF} {s : Fr} {Q : Fr → AH → Prop}
theorem isEnd_r (x : LInstr) : pureK T 52 (some [.agg [PV.int .i64 x.op, PV.int .i64 x.to, sl x.args, sl x.more, PV.int .i64 x.con, PV.int .i64 x.num, PV.int .i64 x.fn, sl x.jump]]) o h d r κ s Q = WR T r κ (Fr.put s d (.bool (isEndOp x.op))) h Q := pureK_eq (isEnd_p x) (.inl rfl)
theorem end_r (n : Int) : pureK T 50 (some [.int .i64 n]) o h d r κ s Q = WR T r κ (Fr.put s d (.bool (isEndOp n))) h Q := pureK_eq (end_p n) (.inl rfl)
end

theorem laidF_p (x : Int) (p : LProc) : Pure T 54 [.int .i64 x, .pi (Enc.c p)] (.bool (decide (x < 0 ∨ (p.blocks.length : Int) ≤ x))) true := by
  refine ⟨c54, rfl, rfl, ?_⟩
  simp [c54]
  (repeat' ((first | refine gdS_split (fun hc => ?_) (fun hc => ?_) | refine condS_split (fun hc => ?_) (fun hc => ?_)) <;> (try simp at hc) <;> (try simp [hc])))
  intro; omega

theorem laid_in (b : LBlock) (hl : b.code.length ≤ 1000) {κ : List KF} {s : Fr} {h : AH} {Q : Fr → AH → Prop} (i : Nat) (e4 : s 4 = .pt i 0) (hr : h.row i = some (Enc.c b)) (hi : i < h.nx)
   (e28 : s 28 = sl b.code) (e29 : s 29 = .int .i64 b.code.length) (e30 : s 30 = .int .i64 0) (hlw : h.lo ≤ h.nx)
   (h1 : endsOk b.code → ∀ s' h', (∀ t, t ∉ w31_1 → s' t = s t) → Grow h h' → h'.row i = some (Enc.c b) → WK T .skip κ s' h' Q)
   (h2 : ¬ endsOk b.code → ∀ s' h', s' 2 = .bool false → Q s' h') : WK T (.loop c31_1) (.block 2 :: κ) s h Q := by
  refine WK_range tgrow (fun k s h => h.row i = some (Enc.c b) ∧ ∀ i (hi : i < b.code.length), i < k → isEndOp b.code[i].op = decide (i = b.code.length - 1)) b.code.length w31_1 rfl (by decide) e30 e29 (by omega) (by decide) (fun _ _ _ _ j _ => j) ⟨hr, by simp⟩ ?_ ?_
  · rintro k s' h' hk ⟨jr, hj⟩ hi hs hg
    have f28 : s' 28 = sl b.code := (hs 28 (by decide)).trans e28
    have f4 : s' 4 = .pt i 0 := (hs 4 (by decide)).trans e4
    have hlw' : h'.lo ≤ h'.nx := hg.low hlw
    have hin : i < h'.nx := by have := hg.2; omega
    have hw : IntKind.i64.wrap ((b.code.length : Int) - 1) = ((b.code.length - 1 : Nat) : Int) := by rw [w64 (by omega)]; omega
    have hne : ¬ i = h'.nx := by omega
    simp [hi, f28, f4, evIdx_nat, rds_ptr, hk, hlw', jr, isEnd_r, hne, hw]
    have hd : decide ((k : Int) = ((b.code.length - 1 : Nat) : Int)) = decide (k = b.code.length - 1) := by rw [Bool.eq_iff_iff]; simp; omega
    by_cases hq : isEndOp b.code[k].op = decide (k = b.code.length - 1)
    · simp [hd, hq, hi, jr, hne]
      intro i' hi' hlt
      rcases Nat.lt_succ_iff_lt_or_eq.1 hlt with q | q
      · exact hj i' hi' q
      · subst q; exact hq
    · have hb : (isEndOp b.code[k].op == decide (k = b.code.length - 1)) = false := by simpa using hq
      simp [hd, hb]
      exact h2 (fun q => hq (q k hk)) _ _ (by simp)
  · rintro s' h' ⟨jr, hj⟩ hs hg
    exact h1 (fun k hk => hj k hk hk) s' h' hs hg jr

theorem containsF_r {o : Bool} {h : AH} {d : Option Nat} {r : List COper} {κ : List KF} {s : Fr} {Q : Fr → AH → Prop} (p : LProc) (l : List Int) (hl : l.length ≤ 1000) :
    pureK T 53 (some [sl l, .fn 54 [] [.pi [PV.str p.name, sl p.params, PV.int .i64 p.result, sl p.sig.params, PV.str p.sig.base, sl p.sig.result, PV.str p.sig.rest, sl p.blocks, PV.bool p.extern]]]) o h d r κ s Q = WR T r κ (Fr.put s d (.bool (l.any fun x => decide (x < 0 ∨ (p.blocks.length : Int) ≤ x)))) h Q :=
  pureK_eq (containsF_p l _ [.pi (Enc.c p)] _ (fun x _ => laidF_p x p) (by decide) (by simp) (by omega)) (.inl rfl)

def FitP (p : LProc) : Prop := p.blocks.length ≤ 1000 ∧ ∀ b ∈ p.blocks, FitB b

theorem laid_p (p : LProc) (hp : FitP p) : Pure T 31 [.agg (Enc.c p)] (.bool (laid p)) true := by
  refine ⟨c31, rfl, rfl, ?_⟩
  obtain ⟨hp1, hp2⟩ := hp
  simp [c31]
  by_cases hx : p.extern = decide (p.blocks = [])
  case neg =>
    have hb : (p.extern == decide (p.blocks = [])) = false := by simpa using hx
    have : laid p = false := laid_not fun q => hx (by rw [Bool.eq_iff_iff]; simpa using q.1)
    simp [hb, this]
  have hb : (p.extern == decide (p.blocks = [])) = true := by simpa using hx
  have hx' : p.extern = true ↔ p.blocks = [] := by rw [hx]; simp
  simp [hb]
  refine WK_range tgrow (fun k s h => ∀ x ∈ p.blocks.take k, laidB p.blocks.length x) p.blocks.length w31_0 rfl (by decide) (by simp) (by simp) (by omega) (by decide) (fun _ _ _ _ j _ => j) (by simp) ?_ ?_
  · intro k s' h' hk hj hi hs hg
    have f17 : s' 17 = sl p.blocks := (hs 17 (by decide)).trans (by simp)
    have f1 : s' 1 = .pi (Enc.c p) := (hs 1 (by decide)).trans (by simp)
    have hlw' : h'.lo ≤ h'.nx := hg.low (by simp)
    have bad : ¬ laidB p.blocks.length p.blocks[k] → laid p = false := fun q => laid_not fun r => q (r.2 _ (List.getElem_mem hk))
    obtain ⟨fb1, fb2, fb3⟩ := hp2 _ (List.getElem_mem hk)
    simp [hi, f17, f1, evIdx_nat, rds_ptr, hk, hlw']
    refine condS_split (fun hc => ?_) (fun hc => ?_) <;> simp at hc
    · have : ¬ laidB p.blocks.length p.blocks[k] := fun ⟨x, q, _⟩ => by simp [hc] at q
      simp [bad this]
    simp
    have hl : 0 < p.blocks[k].code.length := List.length_pos_iff.2 hc
    have hlt : p.blocks[k].code.length - 1 < p.blocks[k].code.length := by omega
    have hlast : p.blocks[k].code.getLast? = some (p.blocks[k].code[p.blocks[k].code.length - 1]) := by
      rw [List.getLast?_eq_getElem?, List.getElem?_eq_getElem hlt]
    refine laid_in p.blocks[k] fb1 h'.nx (by simp) (by simp) (by simp) (by simp) (by simp) (by simp) (by simp; omega) (fun q s2 h2 hs2 hg2 hr2 => ?_) (fun q s2 h2 e2 => ?_)
    · have e4 : s2 4 = .pt h'.nx 0 := (hs2 4 (by decide)).trans (by simp)
      have e1 : s2 1 = .pi (Enc.c p) := (hs2 1 (by decide)).trans (by simp [f1])
      have e19 : s2 19 = .int .i64 k := (hs2 19 (by decide)).trans (by simp [hi])
      have hw : IntKind.i64.wrap ((p.blocks[k].code.length : Int) - 1) = ((p.blocks[k].code.length - 1 : Nat) : Int) := by rw [w64 (by omega)]; omega
      have hn2 : h'.nx + 1 ≤ h2.nx := hg2.2
      have hlo2 : h2.lo ≤ h2.nx := hg2.low (by simp; omega)
      have hne : ¬ h'.nx = h2.nx := by omega
      simp [e1, e4, hr2, evIdx_nat, rds_ptr, hw, hlt, hlo2, hne]
      have hjl : p.blocks[k].code[p.blocks[k].code.length - 1].jump.length ≤ 1000 := (fb3 _ (List.getElem_mem hlt)).2.2
      have lo : ∀ x, p.blocks[k].code[p.blocks[k].code.length - 1] = x → ¬ lastOk x → laid p = false := fun x ex hx => bad fun ⟨y, q1, _, q3, _⟩ => by
        rw [hlast, ex] at q1; cases q1; exact hx q3
      have jo : ∀ x, p.blocks[k].code[p.blocks[k].code.length - 1] = x → ¬ jumpsOk p.blocks.length x → laid p = false := fun x ex hx => bad fun ⟨y, q1, _, _, q4⟩ => by
        rw [hlast, ex] at q1; cases q1; exact hx q4
      have good : ∀ x, p.blocks[k].code[p.blocks[k].code.length - 1] = x → lastOk x → jumpsOk p.blocks.length x → laidB p.blocks.length p.blocks[k] := fun x ex h1 h2 => ⟨x, by rw [hlast, ex], q, h1, h2⟩
      generalize hx : p.blocks[k].code[p.blocks[k].code.length - 1] = x at *
      have lo := lo x rfl
      have jo := jo x rfl
      have good := good x rfl
      (repeat' ((first | refine gdS_split (fun hc => ?_) (fun hc => ?_) | refine condS_split (fun hc => ?_) (fun hc => ?_)) <;> (try simp at hc) <;> (try simp [hc, containsF_r, hjl, e19, e1])))
      all_goals clear hs hs2 f17 f1
      all_goals first
        | exact jo (not_jumpsOk hc)
        | (refine lo ?_; unfold lastOk; split <;> omega)
        | (refine mem_take_succ hk hj (good ?_ hc); unfold lastOk; split <;> omega)
        | (refine mem_take_succ hk hj (good ?_ ?_)
           · unfold lastOk; split <;> simp_all
           · unfold jumpsOk; simp [hc])
    · have : laid p = false := bad fun ⟨_, _, q', _⟩ => q q'
      simp [e2, this]
  · intro s' h' hj hs hg
    rw [List.take_length] at hj
    have : laid p = true := laid_is ⟨hx', hj⟩
    simp [this]
end Go.Proofs.Ytpdgjdnipkmocaa

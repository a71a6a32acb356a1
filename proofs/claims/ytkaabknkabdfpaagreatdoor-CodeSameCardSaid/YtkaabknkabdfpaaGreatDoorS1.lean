/- Comparisons of instructions, registers, blocks, procedures: the reference's. -/
import Derived.Test.YtkaabknkabdfpaaGreatDoorRules
import Derived.Test.YtkaabknkabdfpaaGreatDoorDt
import Derived.Test.YtkaabknkabdfpaaGreatDoorEwC
import Derived.Test.YtkaabknkabdfpaaGreatDoorEwL
set_option linter.unusedVariables false
set_option linter.unusedSimpArgs false
namespace Go.Proofs.YtkaabknkabdfpaaGreatDoor
open Go.Ev

theorem tgrow : TGrow T := ⟨_, _, _, tok⟩
/-- The limits of what is compared. -/
def FitI (x : LInstr) : Prop := x.args.length ≤ 1000 ∧ x.more.length ≤ 1000 ∧ x.jump.length ≤ 1000
def FitB (b : LBlock) : Prop := b.code.length ≤ 1000 ∧ b.regs.length ≤ 1000 ∧ ∀ x ∈ b.code, FitI x

theorem equal_p (a b : List Int) (ha : a.length < 9223372036854775807) : Pure T 237 [sl a, sl b] (.bool (decide (a = b))) true := by
  refine ⟨c237, rfl, rfl, ?_⟩
  simp [c237]
  refine condS_split (fun hc => ?_) (fun hc => ?_) <;> simp at hc
  · have : a ≠ b := fun q => hc (by rw [q])
    simp [this]
  simp
  have hc : a.length = b.length := by omega
  refine WK_range tgrow (fun k s h => a.take k = b.take k) a.length w237_0 rfl (by decide) (by simp) (by simp) ha (by decide) (fun _ _ _ _ j _ => j) (by simp) ?_ ?_
  · intro k s' h' hk hj hi hs hg
    have f0 : s' 0 = sl a := (hs 0 (by decide)).trans (by simp)
    have f1 : s' 1 = sl b := (hs 1 (by decide)).trans (by simp)
    have hk' : k < b.length := by omega
    simp [hi, f0, f1, evIdx_nat, rd1_ptr, hk, hk']
    refine condS_split (fun hc => ?_) (fun hc => ?_) <;> simp at hc
    · have : a ≠ b := fun q => hc (by subst q; rfl)
      simp [this]
    · have : a.take (k + 1) = b.take (k + 1) := by rw [take_succ' hk, take_succ' hk', hj, hc]
      simp [hi, this]
  · intro s' h' hj hs hg
    rw [hc, List.take_length, ← hc, List.take_length] at hj
    simp [hj]

section
variable {o : Bool} {h : AH} {d : Option Nat} {r : List COper} {κ : List KF} {s : Fr} {Q : Fr → AH → Prop}
open Classical

/-- Equality, as a bool. -/
noncomputable def eqv {α : Type} (a b : α) : Bool := decide (a = b)
theorem eqv_refl {α : Type} (a : α) : eqv a a = true := by simp [eqv]
theorem eqv_ne {α : Type} {a b : α} (h : a ≠ b) : eqv a b = false := by simp [eqv, h]
theorem eqv_iff {α : Type} {a b : α} : eqv a b = true ↔ a = b := by simp [eqv]

theorem ints_p (a b : List Int) (ha : a.length ≤ 10000000) : Pure T 236 [sl a, sl b] (.bool (eqv a b)) true := by
  refine ⟨c236, rfl, rfl, ?_⟩
  simp [c236]
  refine condS_split (fun hc => ?_) (fun hc => ?_) <;> simp at hc
  · have : a ≠ b := fun q => hc (by rw [q])
    simp [eqv_ne this]
  have hc : a.length = b.length := by omega
  simp
  refine WK_loop tgrow (fun k s h => s 5 = .int .i64 (k : Nat) ∧ a.take k = b.take k) a.length w236_0 (by decide) (by simp) ?_
  rintro k s' h' hk ⟨e5, hj⟩ hs hg
  have f0 : s' 0 = sl a := (hs 0 (by decide)).trans (by simp)
  have f1 : s' 1 = sl b := (hs 1 (by decide)).trans (by simp)
  simp [c236_0, e5, f0, f1]
  refine condS_split (fun hkl => ?_) (fun hkl => ?_) <;> simp at hkl
  · have hkl' : k < b.length := by omega
    have hk2 : k < 9223372036854775807 := by omega
    simp [e5, f0, f1, evIdx_nat, rd1_ptr, hkl, hkl']
    refine condS_split (fun hq => ?_) (fun hq => ?_) <;> simp at hq
    · have : a ≠ b := fun q => hq (by subst q; rfl)
      simp [eqv_ne this]
    · have : a.take (k + 1) = b.take (k + 1) := by rw [take_succ' hkl, take_succ' hkl', hj, hq]
      simp [e5, hk2, hkl, this]
  · have hkn : k = a.length := by omega
    have : a = b := by
      rw [hkn, List.take_length, hc, List.take_length] at hj
      exact hj
    simp [this, eqv_refl]
theorem ints_r (a b : List Int) (ha : a.length ≤ 10000000) : pureK T 236 (some [sl a, sl b]) o h d r κ s Q = WR T r κ (Fr.put s d (.bool (eqv a b))) h Q := pureK_eq (ints_p a b ha) (.inl rfl)

theorem strs_p (a b : List ByteArray) (ha : a.length ≤ 10000000) : Pure T 176 [sl a, sl b] (.bool (eqv a b)) true := by
  refine ⟨c176, rfl, rfl, ?_⟩
  simp [c176]
  refine condS_split (fun hc => ?_) (fun hc => ?_) <;> simp at hc
  · have : a ≠ b := fun q => hc (by rw [q])
    simp [eqv_ne this]
  have hc : a.length = b.length := by omega
  simp
  refine WK_loop tgrow (fun k s h => s 5 = .int .i64 (k : Nat) ∧ a.take k = b.take k) a.length w176_0 (by decide) (by simp) ?_
  rintro k s' h' hk ⟨e5, hj⟩ hs hg
  have f0 : s' 0 = sl a := (hs 0 (by decide)).trans (by simp)
  have f1 : s' 1 = sl b := (hs 1 (by decide)).trans (by simp)
  simp [c176_0, e5, f0, f1]
  refine condS_split (fun hkl => ?_) (fun hkl => ?_) <;> simp at hkl
  · have hkl' : k < b.length := by omega
    have hk2 : k < 9223372036854775807 := by omega
    simp [e5, f0, f1, evIdx_nat, rd1_ptr, hkl, hkl']
    refine condS_split (fun hq => ?_) (fun hq => ?_) <;> simp at hq
    · have : a ≠ b := fun q => hq (by subst q; rfl)
      simp [eqv_ne this]
    · have : a.take (k + 1) = b.take (k + 1) := by rw [take_succ' hkl, take_succ' hkl', hj, hq]
      simp [e5, hk2, hkl, this]
  · have hkn : k = a.length := by omega
    have : a = b := by
      rw [hkn, List.take_length, hc, List.take_length] at hj
      exact hj
    simp [this, eqv_refl]
theorem strs_r (a b : List ByteArray) (ha : a.length ≤ 10000000) : pureK T 176 (some [sl a, sl b]) o h d r κ s Q = WR T r κ (Fr.put s d (.bool (eqv a b))) h Q := pureK_eq (strs_p a b ha) (.inl rfl)

theorem beq_eqv (a b : Bool) : (a == b) = eqv a b := by cases a <;> cases b <;> simp [eqv]
theorem dec_eqv {α : Type} {a b : α} [Decidable (a = b)] : decide (a = b) = eqv a b := by simp only [eqv]; congr

theorem sameInstr_p (a b : LInstr) (ha : FitI a) : Pure T 179 [.agg (Enc.c a), .agg (Enc.c b)] (.bool (eqv a b)) true := by
  refine ⟨c179, rfl, rfl, ?_⟩
  obtain ⟨l1, l2, l3⟩ := ha
  obtain ⟨a1, a2, a3, a4, a5, a6, a7, a8⟩ := a
  obtain ⟨b1, b2, b3, b4, b5, b6, b7, b8⟩ := b
  simp at l1 l2 l3
  simp [c179, ints_r a3 b3 (by omega), ints_r a4 b4 (by omega), ints_r a8 b8 (by omega)]
  (repeat' ((first | refine gdS_split (fun hc => ?_) (fun hc => ?_) | refine condS_split (fun hc => ?_) (fun hc => ?_)) <;> (try simp at hc) <;> (try simp [hc, ints_r a3 b3 (by omega), ints_r a4 b4 (by omega), ints_r a8 b8 (by omega)])))
  all_goals simp_all [eqv]
theorem sameInstr_r (a b : LInstr) (ha : FitI a) : pureK T 179 (some [.agg [PV.int .i64 a.op, PV.int .i64 a.to, sl a.args, sl a.more, PV.int .i64 a.con, PV.int .i64 a.num, PV.int .i64 a.fn, sl a.jump], .agg [PV.int .i64 b.op, PV.int .i64 b.to, sl b.args, sl b.more, PV.int .i64 b.con, PV.int .i64 b.num, PV.int .i64 b.fn, sl b.jump]]) o h d r κ s Q = WR T r κ (Fr.put s d (.bool (eqv a b))) h Q := pureK_eq (sameInstr_p a b ha) (.inl rfl)

theorem sameReg_p (a b : LReg) (ha : a.pot.length ≤ 10000000) : Pure T 178 [.agg (Enc.c a), .agg (Enc.c b)] (.bool (eqv a b)) true := by
  refine ⟨c178, rfl, rfl, ?_⟩
  obtain ⟨a1, a2, a3, a4⟩ := a
  obtain ⟨b1, b2, b3, b4⟩ := b
  simp at ha
  simp [c178, strs_r a4 b4 ha, beq_eqv]
  (repeat' ((first | refine gdS_split (fun hc => ?_) (fun hc => ?_) | refine condS_split (fun hc => ?_) (fun hc => ?_)) <;> (try simp at hc) <;> (try simp [hc, strs_r a4 b4 ha, beq_eqv])))
  all_goals simp_all [eqv]
theorem sameReg_r (a b : LReg) (ha : a.pot.length ≤ 10000000) : pureK T 178 (some [.agg [PV.bool a.live, PV.int .i64 a.type, PV.bool a.read, sl a.pot], .agg [PV.bool b.live, PV.int .i64 b.type, PV.bool b.read, sl b.pot]]) o h d r κ s Q = WR T r κ (Fr.put s d (.bool (eqv a b))) h Q := pureK_eq (sameReg_p a b ha) (.inl rfl)

def zeroR : LReg := ⟨false, 0, false, []⟩
/-- How many registers remain without those at the end that are zero. -/
noncomputable def trimN (l : List LReg) : Nat → Nat
  | 0 => 0
  | n + 1 => if l[n]? = some zeroR then trimN l n else n + 1
theorem trimN_le (l : List LReg) : ∀ n, trimN l n ≤ n
  | 0 => Nat.le_refl _
  | n + 1 => by
    simp only [trimN]
    split
    · exact Nat.le_succ_of_le (trimN_le l n)
    · exact Nat.le_refl _
noncomputable def live (l : List LReg) : List LReg := l.take (trimN l l.length)

theorem live_p (l : List LReg) (hl : l.length ≤ 1000000) (hp : ∀ x ∈ l, x.pot.length ≤ 10000000) : Pure T 177 [sl l] (sl (live l)) false := by
  refine ⟨c177, rfl, rfl, ?_⟩
  simp [c177]
  refine WK_loop tgrow (fun k s h => s 3 = .int .i64 ((l.length - k : Nat) : Int) ∧ trimN l (l.length - k) = trimN l l.length) l.length w177_0 (by decide) (by simp) ?_
  rintro k s' h' hk ⟨e3, hj⟩ hs hg
  have f0 : s' 0 = sl l := (hs 0 (by decide)).trans (by simp)
  have done : ∀ m, m ≤ l.length → m = trimN l l.length → l.take m = live l := fun m _ h => by rw [live, h]
  have fin : ∀ m, m ≤ l.length → m = trimN l l.length → evSlice 4 (sl l) none (some (.int .i64 (m : Int))) none = some (sl (live l)) := fun m h1 h2 => by
    rw [evSlice_sl_hi (z := 4) rfl h1, done m h1 h2]
  generalize hm : l.length - k = m at e3 hj
  simp [c177_0, e3, f0]
  refine gdS_split (fun hc => ?_) (fun hc => ?_) <;> simp at hc
  case refine_2 =>
    have hm0 : m = 0 := by omega
    subst hm0
    have := fin 0 (by omega) (by rw [← hj]; rfl)
    simp at this
    simp [hc, e3, f0, this]
  have hm1 : m - 1 < l.length := by omega
  have hw : IntKind.i64.wrap ((m : Int) - 1) = ((m - 1 : Nat) : Int) := by rw [w64 (by omega)]; omega
  have hpx := hp _ (List.getElem_mem hm1)
  have hstop : ¬ l[m - 1] = zeroR → m = trimN l l.length := fun hz => by
    rw [← hj]
    obtain ⟨m', rfl⟩ : ∃ m', m = m' + 1 := ⟨m - 1, by omega⟩
    have : l[m']? = some l[m'] := List.getElem?_eq_getElem _
    simp only [trimN, this]
    rw [if_neg]
    intro q
    exact hz (Option.some.inj q)
  have hgo : l[m - 1] = zeroR → trimN l (m - 1) = trimN l l.length := fun hz => by
    rw [← hj]
    obtain ⟨m', rfl⟩ : ∃ m', m = m' + 1 := ⟨m - 1, by omega⟩
    have : l[m']? = some l[m'] := List.getElem?_eq_getElem _
    simp only [trimN, this]
    exact (if_pos (show some l[m'] = some zeroR from congrArg some hz)).symm
  have hmm : m - 1 = l.length - (k + 1) := by omega
  have ez : [PV.bool false, PV.int .i64 0, PV.bool false, .emp] = [PV.bool false, PV.int .i64 0, PV.bool false, .emp] := rfl
  generalize hx : l[m - 1] = x at *
  simp [hc, e3, f0, hw, evIdx_nat, rd1_ptr, hm1, hx]
  cases hlv : x.live
  · simp [hc, e3, f0, hw, evIdx_nat, rds_ptr, hm1, hx]
    have hsr := fun {o d r s Q κ} => sameReg_r (o := o) (h := h') (d := d) (r := r) (κ := κ) (s := s) (Q := Q) x zeroR hpx
    simp only [zeroR] at hsr
    rw [show sl ([] : List Int) = sl ([] : List ByteArray) from rfl, hsr]
    simp
    cases hq : eqv x ⟨false, 0, false, []⟩
    · have hne : ¬ x = zeroR := fun q => by rw [q] at hq; simp [eqv, zeroR] at hq
      have := fin m (by omega) (hstop hne)
      simp [e3, f0, this]
    · have he : x = zeroR := by simpa [eqv, zeroR] using hq
      have hkl : k < l.length := by omega
      simp [e3, hw, hkl]
      rw [← hmm]
      exact ⟨rfl, hgo he⟩
  · have hne : ¬ x = zeroR := fun q => by rw [q] at hlv; cases hlv
    have := fin m (by omega) (hstop hne)
    simp [e3, f0, this]
theorem live_r (l : List LReg) (hl : l.length ≤ 1000000) (hp : ∀ x ∈ l, x.pot.length ≤ 10000000) : pureK T 177 (some [sl l]) false h d r κ s Q = WR T r κ (Fr.put s d (sl (live l))) h Q := pureK_eq (live_p l hl hp) (.inr rfl)

/-- What of a block is compared. -/
noncomputable def normB (b : LBlock) : List LReg × ByteArray × List LInstr := (live b.regs, b.free, b.code)
theorem live_mem {l : List LReg} {x : LReg} (h : x ∈ live l) : x ∈ l := List.mem_of_mem_take h

/-- A loop that compares two lists of one length. -/
theorem eq_of_takes {α : Type} {a b : List α} (h : a.take a.length = b.take a.length) (hl : a.length = b.length) : a = b := by
  rw [List.take_length, hl, List.take_length] at h; exact h
theorem take_eq_succ {α : Type} {a b : List α} {k : Nat} (hj : a.take k = b.take k) (h1 : k < a.length) (h2 : k < b.length) (h : a[k] = b[k]) : a.take (k + 1) = b.take (k + 1) := by
  rw [take_succ' h1, take_succ' h2, hj, h]

theorem sameBlock_p (a b : LBlock) (ha : FitB a) (hb : b.regs.length ≤ 1000000) (hpa : ∀ x ∈ a.regs, x.pot.length ≤ 10000000) (hpb : ∀ x ∈ b.regs, x.pot.length ≤ 10000000) : Pure T 109 [.agg (Enc.c a), .agg (Enc.c b)] (.bool (eqv (normB a) (normB b))) true := by
  refine ⟨c109, rfl, rfl, ?_⟩
  obtain ⟨l1, l2, l3⟩ := ha
  have la : (live a.regs).length ≤ 1000 := by
    have : (live a.regs).length ≤ a.regs.length := by unfold live; rw [List.length_take]; omega
    omega
  simp [c109, live_r a.regs (by omega) hpa, live_r b.regs hb hpb]
  have nf : (¬ a.free = b.free ∨ ¬ (live a.regs).length = (live b.regs).length ∨ ¬ a.code.length = b.code.length) → eqv (normB a) (normB b) = false := fun q => eqv_ne fun e => by
    simp only [normB, Prod.mk.injEq] at e
    rcases q with q | q | q
    · exact q e.2.1
    · exact q (by rw [e.1])
    · exact q (by rw [e.2.2])
  (repeat' ((first | refine gdS_split (fun hc => ?_) (fun hc => ?_) | refine condS_split (fun hc => ?_) (fun hc => ?_)) <;> (try simp at hc) <;> (try simp [])))
  all_goals first
    | (have := nf (.inr (by omega))
       simp [this]; done)
    | (have := nf (.inl (by assumption))
       simp [this]; done)
    | skip
  have e1 : a.free = b.free := by assumption
  have e2 : (live a.regs).length = (live b.regs).length := by omega
  have e3 : a.code.length = b.code.length := by omega
  refine WK_loop tgrow (fun k s h => s 7 = .int .i64 (k : Nat) ∧ (live a.regs).take k = (live b.regs).take k) (live a.regs).length w109_0 (by decide) (by simp) ?_
  rintro k s' h' hk ⟨e7, hj⟩ hs hg
  have f5 : s' 5 = sl (live a.regs) := (hs 5 (by decide)).trans (by simp)
  have f6 : s' 6 = sl (live b.regs) := (hs 6 (by decide)).trans (by simp)
  have f2 : s' 2 = .pi (Enc.c a) := (hs 2 (by decide)).trans (by simp)
  have f3 : s' 3 = .pi (Enc.c b) := (hs 3 (by decide)).trans (by simp)
  simp [c109_0, e7, f5, f6]
  refine condS_split (fun hkl => ?_) (fun hkl => ?_) <;> simp at hkl
  · have hkl' : k < (live b.regs).length := by omega
    have hk2 : k < 9223372036854775807 := by omega
    simp [e7, f5, f6, evIdx_nat, rds_ptr, hkl, hkl', sameReg_r (live a.regs)[k] (live b.regs)[k] (hpa _ (live_mem (List.getElem_mem hkl)))]
    refine condS_split (fun hq => ?_) (fun hq => ?_) <;> simp at hq
    · have : eqv (normB a) (normB b) = false := eqv_ne fun e => by
        simp only [normB, Prod.mk.injEq] at e
        have h4 : (live a.regs)[k] = (live b.regs)[k] := by simp only [e.1]
        rw [h4, eqv_refl] at hq; cases hq
      simp [this]
    · have := take_eq_succ hj hkl hkl' (eqv_iff.1 hq)
      simp [e7, hk2, hkl, this]
  have hkn : k = (live a.regs).length := by omega
  subst hkn
  have er := eq_of_takes hj e2
  simp
  refine WK_loop tgrow (fun k s h => s 8 = .int .i64 (k : Nat) ∧ a.code.take k = b.code.take k) a.code.length w109_1 (by decide) (by simp) ?_
  rintro k s2 h2 hk ⟨e8, hj⟩ hs2 hg2
  have f2 : s2 2 = .pi (Enc.c a) := (hs2 2 (by decide)).trans (by simp [f2])
  have f3 : s2 3 = .pi (Enc.c b) := (hs2 3 (by decide)).trans (by simp [f3])
  simp [c109_1, e8, f2, f3]
  refine condS_split (fun hkl => ?_) (fun hkl => ?_) <;> simp at hkl
  · have hkl' : k < b.code.length := by omega
    have hk2 : k < 9223372036854775807 := by omega
    simp [e8, f2, f3, evIdx_nat, rds_ptr, hkl, hkl', sameInstr_r a.code[k] b.code[k] (l3 _ (List.getElem_mem hkl))]
    refine condS_split (fun hq => ?_) (fun hq => ?_) <;> simp at hq
    · have : eqv (normB a) (normB b) = false := eqv_ne fun e => by
        simp only [normB, Prod.mk.injEq] at e
        have h4 : a.code[k] = b.code[k] := by simp only [e.2.2]
        rw [h4, eqv_refl] at hq; cases hq
      simp [this]
    · have := take_eq_succ hj hkl hkl' (eqv_iff.1 hq)
      simp [e8, hk2, hkl, this]
  have hkn : k = a.code.length := by omega
  subst hkn
  have ec := eq_of_takes hj e3
  have : eqv (normB a) (normB b) = true := by rw [eqv_iff, normB, normB, er, e1, ec]
  simp [this]
theorem sameBlock_r (a b : LBlock) (ha : FitB a) (hb : b.regs.length ≤ 1000000) (hpa : ∀ x ∈ a.regs, x.pot.length ≤ 10000000) (hpb : ∀ x ∈ b.regs, x.pot.length ≤ 10000000) : pureK T 109 (some [.agg [sl a.regs, PV.str a.free, sl a.code], .agg [sl b.regs, PV.str b.free, sl b.code]]) o h d r κ s Q = WR T r κ (Fr.put s d (.bool (eqv (normB a) (normB b)))) h Q := pureK_eq (sameBlock_p a b ha hb hpa hpb) (.inl rfl)

theorem sameSig_p (a b : LSig) (ha : a.params.length ≤ 10000000) (ha2 : ∀ l ∈ a.params, l.length ≤ 10000000) (ha3 : a.result.length ≤ 10000000) : Pure T 108 [.agg (Enc.c a), .agg (Enc.c b)] (.bool (eqv a b)) true := by
  refine ⟨c108, rfl, rfl, ?_⟩
  obtain ⟨a1, a2, a3, a4⟩ := a
  obtain ⟨b1, b2, b3, b4⟩ := b
  simp at ha ha2 ha3
  simp [c108, strs_r a3 b3 ha3]
  (repeat' ((first | refine gdS_split (fun hc => ?_) (fun hc => ?_) | refine condS_split (fun hc => ?_) (fun hc => ?_)) <;> (try simp at hc) <;> (try simp [strs_r a3 b3 ha3])))
  all_goals first
    | (have : eqv (⟨a1, a2, a3, a4⟩ : LSig) ⟨b1, b2, b3, b4⟩ = false := eqv_ne fun e => by
         cases e
         first | contradiction | omega | (simp_all [eqv])
       simp [this]; done)
    | skip
  have e3 : a3 = b3 := eqv_iff.1 (by assumption)
  have el : a1.length = b1.length := by omega
  have e2 : a2 = b2 := by assumption
  have e4 : a4 = b4 := by assumption
  refine WK_loop tgrow (fun k s h => s 5 = .int .i64 (k : Nat) ∧ a1.take k = b1.take k) a1.length w108_0 (by decide) (by simp) ?_
  rintro k s' h' hk ⟨e5, hj⟩ hs hg
  have f2 : s' 2 = .pi (Enc.c (⟨a1, a2, a3, a4⟩ : LSig)) := (hs 2 (by decide)).trans (by simp)
  have f3 : s' 3 = .pi (Enc.c (⟨b1, b2, b3, b4⟩ : LSig)) := (hs 3 (by decide)).trans (by simp)
  simp [c108_0, e5, f2, f3]
  refine condS_split (fun hkl => ?_) (fun hkl => ?_) <;> simp at hkl
  · have hkl' : k < b1.length := by omega
    have hk2 : k < 9223372036854775807 := by omega
    simp [e5, f2, f3, evIdx_nat, rd1_ptr, hkl, hkl', strs_r a1[k] b1[k] (ha2 _ (List.getElem_mem hkl))]
    refine condS_split (fun hq => ?_) (fun hq => ?_) <;> simp at hq
    · have : eqv (⟨a1, a2, a3, a4⟩ : LSig) ⟨b1, b2, b3, b4⟩ = false := eqv_ne fun e => by
        cases e
        rw [eqv_refl] at hq; cases hq
      simp [this]
    · have := take_eq_succ hj hkl hkl' (eqv_iff.1 hq)
      simp [e5, hk2, hkl, this]
  have hkn : k = a1.length := by omega
  subst hkn
  have ec := eq_of_takes hj el
  have : eqv (⟨a1, a2, a3, a4⟩ : LSig) ⟨b1, b2, b3, b4⟩ = true := by rw [eqv_iff, ec, e2, e3, e4]
  simp [this]
theorem sameSig_r (a b : LSig) (ha : a.params.length ≤ 10000000) (ha2 : ∀ l ∈ a.params, l.length ≤ 10000000) (ha3 : a.result.length ≤ 10000000) : pureK T 108 (some [.agg [sl a.params, PV.str a.base, sl a.result, PV.str a.rest], .agg [sl b.params, PV.str b.base, sl b.result, PV.str b.rest]]) o h d r κ s Q = WR T r κ (Fr.put s d (.bool (eqv a b))) h Q := pureK_eq (sameSig_p a b ha ha2 ha3) (.inl rfl)
end
end Go.Proofs.YtkaabknkabdfpaaGreatDoor

/- What the small functions of chapter 48 compute. -/
import Derived.Test.YtpdgjdnipkmocaaTok
import Derived.Test.YtpdgjdnipkmocaaDt
import Derived.Test.YtpdgjdnipkmocaaEwC
import Derived.Test.YtpdgjdnipkmocaaEwL
set_option linter.unusedVariables false
set_option linter.unusedSimpArgs false
namespace Go.Proofs.Ytpdgjdnipkmocaa
open Go.Ev

theorem tgrow : TGrow T := ⟨_, _, tok⟩

def isEndOp (n : Int) : Bool := n == 8 || n == 9 || n == 11 || n == 12 || n == 13 || n == 14

theorem end_p (n : Int) : Pure T 50 [.int .i64 n] (.bool (isEndOp n)) true := by
  refine ⟨c50, rfl, rfl, ?_⟩
  simp [c50]
  (repeat' ((first | refine gdS_split (fun hc => ?_) (fun hc => ?_) | refine condS_split (fun hc => ?_) (fun hc => ?_)) <;> (try simp at hc) <;> (try simp [hc, isEndOp]))) <;> simp_all [isEndOp, Bool.beq_eq_decide_eq]

theorem isEnd_p (x : LInstr) : Pure T 52 [.agg (Enc.c x)] (.bool (isEndOp x.op)) true := by
  refine ⟨c52, rfl, rfl, ?_⟩
  simp [c52]
  (repeat' ((first | refine gdS_split (fun hc => ?_) (fun hc => ?_) | refine condS_split (fun hc => ?_) (fun hc => ?_)) <;> (try simp at hc) <;> (try simp [hc, isEndOp]))) <;> simp_all

theorem jumps_p (x : LInstr) : Pure T 69 [.agg (Enc.c x)] (.bool (decide (x.op = 8))) true := by
  refine ⟨c69, rfl, rfl, ?_⟩
  simp [c69]

/-- The limits of what is copied: any number will do. -/
def FitI (x : LInstr) : Prop := x.args.length ≤ 1000 ∧ x.more.length ≤ 1000 ∧ x.jump.length ≤ 1000
def FitB (b : LBlock) : Prop := b.code.length ≤ 1000 ∧ b.regs.length ≤ 1000 ∧ ∀ x ∈ b.code, FitI x

def next (b : LBlock) : List Int := match b.code.getLast? with
  | none => []
  | some x => if x.op = 8 ∨ x.op = 9 ∨ x.op = 11 then x.jump else []

theorem next_eq {b : LBlock} (hl : 0 < b.code.length) : next b = let x := b.code[b.code.length - 1]; if x.op = 8 ∨ x.op = 9 ∨ x.op = 11 then x.jump else [] := by
  unfold next
  rw [List.getLast?_eq_getElem?, List.getElem?_eq_getElem (by omega)]

theorem next_p (b : LBlock) (hb : FitB b) : Pure T 13 [.agg (Enc.c b)] (sl (next b)) true := by
  refine ⟨c13, rfl, rfl, ?_⟩
  obtain ⟨hb1, _, hb2⟩ := hb
  simp [c13]
  refine condS_split (fun hc => ?_) (fun hc => ?_) <;> simp at hc
  · simp [hc, next]
  have hl : 0 < b.code.length := List.length_pos_iff.2 hc
  have hw : IntKind.i64.wrap ((b.code.length : Int) - 1) = ((b.code.length - 1 : Nat) : Int) := by rw [w64 (by omega)]; omega
  have hlt : b.code.length - 1 < b.code.length := by omega
  have hj : (b.code[b.code.length - 1]).jump.length ≤ 1000 := (hb2 _ (List.getElem_mem hlt)).2.2
  simp [hw, evIdx_nat, hlt, rds_ptr]
  rw [next_eq hl]
  (repeat' ((first | refine gdS_split (fun hc => ?_) (fun hc => ?_) | refine condS_split (fun hc => ?_) (fun hc => ?_)) <;> (try simp at hc) <;> (try simp [hc])))
  all_goals first
    | (refine opH_cloneO (src_sl rfl) (flat_len' _) (by decide) (by simp) (room (by omega)) (fun v h' ha hk => ?_)
       simp_all [ha.snap rfl, ha.freshInts])
    | (simp_all; done)

theorem nextR_p (b : LBlock) (hb : FitB b) : Pure T 14 [.agg (Enc.c b)] (sl (next b)) true := by
  refine ⟨c14, rfl, rfl, ?_⟩
  obtain ⟨hb1, _, hb2⟩ := hb
  simp [c14]
  refine condS_split (fun hc => ?_) (fun hc => ?_) <;> simp at hc
  · simp [hc, next]
  have hl : 0 < b.code.length := List.length_pos_iff.2 hc
  have hw : IntKind.i64.wrap ((b.code.length : Int) - 1) = ((b.code.length - 1 : Nat) : Int) := by rw [w64 (by omega)]; omega
  have hlt : b.code.length - 1 < b.code.length := by omega
  have hj : (b.code[b.code.length - 1]).jump.length ≤ 1000 := (hb2 _ (List.getElem_mem hlt)).2.2
  simp [hw, evIdx_nat, hlt, rds_ptr, -WR_app]
  rw [next_eq hl]
  (repeat' ((first | refine gdS_split (fun hc => ?_) (fun hc => ?_) | refine condS_split (fun hc => ?_) (fun hc => ?_)) <;> (try simp at hc) <;> (try simp [hc, -WR_app])))
  all_goals first
    | (refine WR_app_acc (cs := []) (by simp; exact Acc.emp) (by simp; exact ⟨rfl, rfl⟩) (flat_len' _) (by simp) (room (by omega)) (fun v h' ha hk => ?_)
       simp at ha
       simp_all [ha.snap rfl, ha.freshInts])
    | (simp_all; done)

theorem equal_p (a b : List Int) (ha : a.length < 9223372036854775807) : Pure T 12 [sl a, sl b] (.bool (decide (a = b))) true := by
  refine ⟨c12, rfl, rfl, ?_⟩
  simp [c12]
  refine condS_split (fun hc => ?_) (fun hc => ?_) <;> simp at hc
  · have : a ≠ b := fun q => hc (by rw [q])
    simp [this]
  simp
  have hc : a.length = b.length := by omega
  refine WK_range tgrow (fun k s h => a.take k = b.take k) a.length w12_0 rfl (by decide) (by simp) (by simp) ha (by decide) (fun _ _ _ _ j _ => j) (by simp) ?_ ?_
  · intro k s' h' hk hj hi hs hg
    have f0 : s' 0 = sl a := (hs 0 (by decide)).trans (by simp)
    have f1 : s' 1 = sl b := (hs 1 (by decide)).trans (by simp)
    have hk' : k < b.length := by omega
    simp [hi, f0, f1, evIdx_nat, rd1_ptr, hk, hk']
    refine condS_split (fun hc => ?_) (fun hc => ?_) <;> simp at hc
    · have : a ≠ b := fun q => hc (by subst q; rfl)
      simp [this]
    · have : a.take (k + 1) = b.take (k + 1) := by rw [take_succ' hk, take_succ' hk', hj, hc]
      simp [hi, this]
  · intro s' h' hj hs hg
    rw [hc, List.take_length, ← hc, List.take_length] at hj
    simp [hj]

/-- The place of the first that satisfies p, or -1. -/
def placeF (p : Int → Bool) : List Int → Int
  | [] => -1
  | x :: l => if p x then 0 else (let r := placeF p l; if r < 0 then -1 else r + 1)
theorem placeF_none {p : Int → Bool} : ∀ {l : List Int}, l.any p = false → placeF p l = -1
  | [], _ => rfl
  | x :: l, h => by
    simp only [List.any_cons, Bool.or_eq_false_iff] at h
    simp [placeF, h.1, placeF_none h.2]
theorem placeF_at {p : Int → Bool} : ∀ {l : List Int} {k : Nat} (hk : k < l.length), (l.take k).any p = false → p l[k] = true → placeF p l = k
  | x :: l, 0, _, _, h => by simp at h; simp [placeF, h]
  | x :: l, k + 1, hk, h1, h2 => by
    simp only [List.take_succ_cons, List.any_cons, Bool.or_eq_false_iff] at h1
    have ih := placeF_at (l := l) (k := k) (by simpa using hk) h1.2 (by simpa using h2)
    simp only [placeF, h1.1, ih]
    simp; omega
theorem placeF_ge {p : Int → Bool} : ∀ {l : List Int}, (0 ≤ placeF p l) = (l.any p = true)
  | [] => by simp [placeF]
  | x :: l => by
    have ih := placeF_ge (p := p) (l := l)
    simp only [placeF, List.any_cons, Bool.or_eq_true]
    cases hp : p x
    · simp only [Bool.false_eq_true, if_false, false_or, ← ih]
      split <;> simp <;> omega
    · simp

theorem index_p (l : List Int) (x : Int) (hl : l.length < 9223372036854775807) : Pure T 58 [sl l, .int .i64 x] (.int .i64 (placeF (fun y => decide (x = y)) l)) true := by
  refine ⟨c58, rfl, rfl, ?_⟩
  simp [c58]
  refine WK_range tgrow (fun k s h => ∀ y ∈ l.take k, ¬ x = y) l.length w58_0 rfl (by decide) (by simp) (by simp) hl (by decide) (fun _ _ _ _ j _ => j) (by simp) ?_ ?_
  · intro k s' h' hk hj hi hs hg
    have f0 : s' 0 = sl l := (hs 0 (by decide)).trans (by simp)
    have f1 : s' 1 = .int .i64 x := (hs 1 (by decide)).trans (by simp)
    simp [hi, f0, f1, evIdx_nat, rd1_ptr, hk]
    refine condS_split (fun hc => ?_) (fun hc => ?_) <;> simp at hc
    · rw [placeF_at hk (by simpa using hj) (by simp [hc])]
      simp [hi]
    · have := mem_take_succ hk hj (by simpa using hc)
      simpa [hi] using this
  · intro s' h' hj hs hg
    rw [List.take_length] at hj
    rw [placeF_none (by simpa using hj)]
    simp

theorem contains_p (l : List Int) (x : Int) (hl : l.length < 9223372036854775807) : Pure T 38 [sl l, .int .i64 x] (.bool (decide (x ∈ l))) true := by
  refine ⟨c38, rfl, rfl, ?_⟩
  simp [c38, pureK_eq (index_p l x hl) (.inl rfl), placeF_ge]

theorem indexF_p (l : List Int) (f : Nat) (cs : List PV) (p : Int → Bool) (hf : ∀ x ∈ l, Pure T f ([.int .i64 x] ++ cs) (.bool (p x)) true) (hfv : f < vb) (hc : cs.all (imm 12) = true) (hl : l.length < 9223372036854775807) :
    Pure T 57 [sl l, .fn f [] cs] (.int .i64 (placeF p l)) true := by
  refine ⟨c57, rfl, rfl, ?_⟩
  simp [c57]
  refine WK_range tgrow (fun k s h => ∀ y ∈ l.take k, ¬ p y = true) l.length w57_0 rfl (by decide) (by simp) (by simp) hl (by decide) (fun _ _ _ _ j _ => j) (by simp) ?_ ?_
  · intro k s' h' hk hj hi hs hg
    have f0 : s' 0 = sl l := (hs 0 (by decide)).trans (by simp)
    have f1 : s' 1 = .fn f [] cs := (hs 1 (by decide)).trans (by simp)
    have hi2 : ∀ x, ([PV.int .i64 x] ++ cs).all (imm 12) = true := fun x => by
      rw [List.all_append, hc]; simp
    simp [hi, f0, f1, evIdx_nat, rd1_ptr, hk, hfv]
    rw [show PV.int .i64 l[k] :: cs = [PV.int .i64 l[k]] ++ cs from rfl, callK_Pure (hf _ (List.getElem_mem hk)) (hi2 _)]
    simp
    refine condS_split (fun hc => ?_) (fun hc => ?_)
    · rw [placeF_at hk (by simpa using hj) hc]
      simp [hi]
    · have := mem_take_succ hk hj (by simpa using hc)
      simpa [hi] using this
  · intro s' h' hj hs hg
    rw [List.take_length] at hj
    rw [placeF_none (by simpa using hj)]
    simp

theorem containsF_p (l : List Int) (f : Nat) (cs : List PV) (p : Int → Bool) (hf : ∀ x ∈ l, Pure T f ([.int .i64 x] ++ cs) (.bool (p x)) true) (hfv : f < vb) (hc : cs.all (imm 11) = true) (hl : l.length < 9223372036854775807) :
    Pure T 53 [sl l, .fn f [] cs] (.bool (l.any p)) true := by
  refine ⟨c53, rfl, rfl, ?_⟩
  have hc' : cs.all (imm 12) = true := List.all_eq_true.2 fun x hx => imm_mono 11 _ _ (by decide) (List.all_eq_true.1 hc x hx)
  have e1 : allO (snap AH.zero 11) cs = some cs := allO_imm (fun v hv => snap_imm _ _ v hv) _ hc
  have e2 : cs.any (own 11) = false := by
    rw [List.any_eq_false]
    intro x hx
    rw [own_imm 11 x (List.all_eq_true.1 hc x hx)]
    simp
  simp [c53, e1, e2, pureK_eq (indexF_p l f cs p hf hfv hc' hl) (.inl rfl), placeF_ge]
  rw [Bool.eq_iff_iff]; simp
end Go.Proofs.Ytpdgjdnipkmocaa

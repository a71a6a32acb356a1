/- What 'tidy' computes. -/
import Derived.Test.YtpdgjdnipkmocaaG3
set_option linter.unusedVariables false
set_option linter.unusedSimpArgs false
namespace Go.Proofs.Ytpdgjdnipkmocaa
open Go.Ev

def idxOf (l : List Int) (j : Int) : Int := placeF (fun y => decide (j = y)) l
def isJ (x : LInstr) : Bool := x.op == 8 || x.op == 9 || x.op == 11
def tidyI (l : List Int) (x : LInstr) : LInstr := if isJ x then { x with jump := x.jump.map (idxOf l) } else x
def tidyC (l : List Int) (c : List LInstr) : List LInstr := match c.getLast? with
  | none => []
  | some x => c.dropLast ++ [tidyI l x]
def tidyB (l : List Int) (b : LBlock) : LBlock := { b with code := tidyC l b.code }
def blockAt (p : LProc) (a : Int) : LBlock := p.blocks[a.toNat]?.getD ⟨[], ⟨#[]⟩, []⟩
noncomputable def tidyP (p : LProc) : LProc := { p with blocks := (order p).map fun a => tidyB (order p) (blockAt p a) }

section
variable {h : AH} {S : Nat → Prop}
theorem rs_int {d : Nat} (x : Int) (v : PV) (hv : v ∈ Enc.c x) : Rep S h (d + 1) v v := by
  simp at hv; subst hv; simp
theorem rs_str {d : Nat} (x : ByteArray) (v : PV) (hv : v ∈ Enc.c x) : Rep S h (d + 1) v v := by
  simp at hv; subst hv; simp
theorem rs_sl {α : Type} [Enc α] {d : Nat} (hd : Enc.dep α ≤ d) (hc : ∀ (x : α) (v : PV), v ∈ Enc.c x → Rep S h d v v) (l : List α) (v : PV) (hv : v ∈ Enc.c l) : Rep S h (d + 1) v v := by
  simp at hv; subst hv; exact Rep.data hd hc l
theorem rs_LReg {d : Nat} (x : LReg) (v : PV) (hv : v ∈ Enc.c x) : Rep S h (d + 2) v v := by
  simp only [c_LReg, List.mem_cons, List.not_mem_nil, or_false] at hv
  rcases hv with rfl | rfl | rfl | rfl
  · simp
  · simp
  · simp
  · exact Rep.data (by simp) rs_str _
theorem rs_LVar {d : Nat} (x : LVar) (v : PV) (hv : v ∈ Enc.c x) : Rep S h (d + 1) v v := by
  simp only [c_LVar, List.mem_cons, List.not_mem_nil, or_false] at hv
  rcases hv with rfl | rfl
  · simp
  · simp
theorem rs_LInstr {d : Nat} (x : LInstr) (v : PV) (hv : v ∈ Enc.c x) : Rep S h (d + 2) v v := by
  simp only [c_LInstr, List.mem_cons, List.not_mem_nil, or_false] at hv
  rcases hv with rfl | rfl | rfl | rfl | rfl | rfl | rfl | rfl <;> first | (simp; done) | exact Rep.data (by simp) rs_int _
theorem rs_LBlock {d : Nat} (x : LBlock) (v : PV) (hv : v ∈ Enc.c x) : Rep S h (d + 3) v v := by
  simp only [c_LBlock, List.mem_cons, List.not_mem_nil, or_false] at hv
  rcases hv with rfl | rfl | rfl
  · exact Rep.data (by simp) rs_LReg _
  · simp
  · exact Rep.data (by simp) rs_LInstr _

theorem icell_rep {d : Nat} (x : LInstr) (j : PV) (hj : Rep S h (d + 2) j (sl x.jump)) : RepL (Rep S h (d + 2)) (icell x j) (Enc.c x) := by
  refine ⟨by simp, by simp, Rep.data (by simp) rs_int _, Rep.data (by simp) rs_int _, by simp, by simp, by simp, hj, trivial⟩

theorem zip_rep {d : Nat} : ∀ (code : List LInstr) (js : List PV) (hl : js.length = code.length), (∀ k (hk : k < code.length) (hk' : k < js.length), Rep S h (d + 2) js[k] (sl code[k].jump)) →
    RepL (Rep S h (d + 2)) (List.zipWith icell code js).flatten (code.map Enc.c).flatten
  | [], [], _, _ => trivial
  | x :: code, j :: js, hl, hj => by
    simp only [List.zipWith_cons_cons, List.map_cons, List.flatten_cons]
    exact (icell_rep x j (hj 0 (by simp) (by simp))).append (zip_rep code js (by simpa using hl) fun k hk hk' => hj (k + 1) (by simpa using hk) (by simpa using hk'))
  | [], _ :: _, hl, _ => by simp at hl
  | _ :: _, [], hl, _ => by simp at hl

theorem CodeR.rep {N d : Nat} {cv : PV} {code : List LInstr} {js : List PV} (c : CodeR h N cv code js) (hS : ∀ i, (nm cv i ∨ ∃ j ∈ js, nm j i) → S i) : Rep S h (d + 3) cv (sl code) := by
  refine ⟨8, _, c.acc.src, zip_len _ _ c.len, fun z' i o m e => ?_, zip_rep code js c.len fun k hk hk' => ?_⟩
  · obtain ⟨_, ⟨q, _⟩ | ⟨j, q, _, hj, _⟩⟩ := c.acc
    · rw [q] at e; cases e
    · have e' := e
      rw [q] at e'; cases e'; exact ⟨rfl, hS _ (.inl ⟨_, _, _, e⟩), hj⟩
  · exact Acc.rep (c.jump k hk hk') rfl (fun i hi => hS i (.inr ⟨_, List.getElem_mem hk', hi⟩)) rs_int
end

section
variable {κ : List KF} {s : Fr} {h : AH} {Q : Fr → AH → Prop}
theorem idx_len (l : List Int) (j : Int) (hl : l.length ≤ 100000) {o : Bool} {h : AH} {d : Option Nat} {r : List COper} : pureK T 58 (some [sl l, .int .i64 j]) o h d r κ s Q = WR T r κ (Fr.put s d (.int .i64 (idxOf l j))) h Q := pureK_eq (index_p l j (by omega)) (.inl rfl)

theorem tidy_in (l : List Int) (J : List Int) (hJ : J.length ≤ 1000) (hl : l.length ≤ 100000) {lv jv : PV} {ic off : Nat} {X : List PV} (e3 : s 3 = lv) (e8 : s 8 = .pt ic off) (e35 : s 35 = sl J) (e36 : s 36 = .int .i64 J.length) (e37 : s 37 = .int .i64 0)
    (ha : Acc h lv 1 (l.map Enc.c).flatten l.length) (hX : h.row ic = some X) (h7 : X[off + 7]? = some jv) (hj : Acc h jv 1 (J.map Enc.c).flatten J.length) (hic : ic < h.nx) (n1 : Apart lv jv) (n2 : ∀ z o n, jv ≠ .rf z ic o n)
    (next : ∀ s' h', (∀ t, t ∉ w100041_1 → s' t = s t) → Acc h' jv 1 ((J.map (idxOf l)).map Enc.c).flatten J.length → (∀ i, ¬ nm jv i → h'.blk i = h.blk i) → h'.nx = h.nx → h'.lo = h.lo → WK T .skip κ s' h' Q) : WK T (.loop c100041_1) (.block 2 :: κ) s h Q := by
  refine WK_range tgrow (fun k s' h' => Acc h' jv 1 (((J.take k).map (idxOf l) ++ J.drop k).map Enc.c).flatten J.length ∧ (∀ i, ¬ nm jv i → h'.blk i = h.blk i) ∧ h'.nx = h.nx ∧ h'.lo = h.lo) J.length w100041_1 rfl (by decide) e37 e36 (by omega) (by decide) (fun _ _ _ _ j _ => j) ⟨by simpa using hj, fun _ _ => rfl, rfl, rfl⟩ ?_ ?_
  · rintro k s' h' hk ⟨ja, jb, jc, jd⟩ hi hs hg
    have f3 : s' 3 = lv := (hs 3 (by decide)).trans e3
    have f8 : s' 8 = .pt ic off := (hs 8 (by decide)).trans e8
    have f35 : s' 35 = sl J := (hs 35 (by decide)).trans e35
    have hX' : h'.row ic = some X := by rw [← hX]; simp only [AH.row, jb ic (fun ⟨z, o, n, e⟩ => n2 z o n e)]
    have ha' : Acc h' lv 1 (l.map Enc.c).flatten l.length := ha.of_blk (by omega) jd fun z o n i e hi => by
      simp only [AH.row]; rw [jb i fun ⟨z', o', n', e'⟩ => n1 _ _ _ _ _ _ _ e e']
    obtain ⟨hlen, ⟨_, h0⟩ | ⟨ij, rfl, hr, hij, hlo⟩⟩ := ja
    · omega
    have hne : evNilchk (.pt ic off) = some (.pt ic off) := rfl
    have hLl : ((J.take k).map (idxOf l) ++ J.drop k).length = J.length := by simp; omega
    have hset : ((((J.take k).map (idxOf l) ++ J.drop k).map Enc.c).flatten).set k (.int .i64 (idxOf l J[k])) = (((J.take (k + 1)).map (idxOf l) ++ J.drop (k + 1)).map Enc.c).flatten := by
      rw [flat_ints, flat_ints, ← List.map_set]
      congr 1
      have hA : ((J.take k).map (idxOf l)).length = k := by rw [List.length_map, List.length_take]; omega
      rw [List.set_append_right _ _ (by omega), hA, Nat.sub_self, List.drop_eq_getElem_cons hk, List.set_cons_zero, take_succ' hk, List.map_append, List.append_assoc]
      rfl
    have hlt : k < ((((J.take k).map (idxOf l) ++ J.drop k).map Enc.c).flatten).length := by rw [hlen]; omega
    generalize (((J.take k).map (idxOf l) ++ J.drop k).map Enc.c).flatten = Y at *
    generalize hZ : (((J.take (k + 1)).map (idxOf l) ++ J.drop (k + 1)).map Enc.c).flatten = Z at *
    simp [hi, f3, f8, f35, evIdx_nat, rd1_ptr, hk, hne, hX', h7, ha'.snap rfl, idx_len l _ hl, evIdx_rf hk, hlo, hr, hlt, hset]
    refine ⟨⟨?_, .inr ⟨ij, rfl, by simp, by simpa using hij, by simpa using hlo⟩⟩, fun i hi => ?_, by omega, by omega⟩
    · rw [← hset, List.length_set, hlen]
    · rw [if_neg (fun q => hi (by subst q; exact ⟨_, _, _, rfl⟩))]
      exact jb i hi
  · rintro s' h' ⟨ja, jb, jc, jd⟩ hs hg
    rw [List.take_length, List.drop_length, List.append_nil] at ja
    exact next s' h' hs ja jb jc jd
end
end Go.Proofs.Ytpdgjdnipkmocaa

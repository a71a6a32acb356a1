/- Joining two blocks: the law. -/
import Derived.Test.YtpdgjdnipkmocaaP4
import Derived.Test.YtpdgjdnipkmocaaJ3
set_option linter.unusedVariables false
set_option linter.unusedSimpArgs false
namespace Go.Proofs.Ytpdgjdnipkmocaa
open Go.Ev

def mrgB (p : LProc) (a : Int) : LBlock := { blockAt p a with code := (blockAt p a).code.dropLast ++ (blockAt p (jb p a)).code }
def mrg (p : LProc) (a : Int) : LProc := { p with blocks := p.blocks.set a.toNat (mrgB p a) }

theorem jointS_some {p : LProc} {a : Int} (h : jointS p = some a) : a ∈ order p ∧ jointAt p a = true :=
  ⟨List.mem_of_find?_eq_some h, List.find?_some h⟩

/-- What is known of a block that may be joined. -/
structure Jn (p : LProc) (a b : Int) : Prop where
  la : laid p = true
  ex : p.extern = false
  ma : a ∈ order p
  mb : b ∈ order p
  su : succ p a = [b]
  jb : jb p a = b
  ne : a ≠ b
  nz : b ≠ 0
  cn : cntB p b ≤ 1
  ba : 0 ≤ a ∧ a < (p.blocks.length : Int)
  bb : 0 ≤ b ∧ b < (p.blocks.length : Int)

theorem jn_of {p : LProc} {a : Int} (h : jointS p = some a) : Jn p a (jb p a) := by
  obtain ⟨ma, hj⟩ := jointS_some h
  simp only [jointAt, decide_eq_true_eq] at hj
  obtain ⟨c1, _, c3, c4, c5⟩ := hj
  have hcond : laid p = true ∧ p.extern = false := by
    unfold order at ma
    split at ma
    · assumption
    · cases ma
  obtain ⟨y, hy⟩ := List.length_eq_one_iff.1 c1
  have hjb : jb p a = y := by simp [jb, hy]
  rw [hjb] at c3 c4 c5 ⊢
  have hN := order_nums p
  have mb : y ∈ order p := (order_closed hcond.1 hcond.2).2 a ma y (by rw [hy]; simp)
  exact ⟨hcond.1, hcond.2, ma, mb, hy, hjb, Ne.symm c3, c4, c5, hN.2 a ma, hN.2 y mb⟩

theorem count_two {α β : Type} [DecidableEq β] {f : α → List β} {b : β} {a c : α} (ne : a ≠ c) (h1 : b ∈ f a) (h2 : b ∈ f c) : ∀ {l : List α}, a ∈ l → c ∈ l → 2 ≤ (l.flatMap f).count b
  | x :: l, ha, hc => by
    have p1 := fun {y : α} (h : y ∈ l) (hb : b ∈ f y) => List.count_pos_iff.2 (List.mem_flatMap.2 ⟨y, h, hb⟩)
    rw [List.flatMap_cons, List.count_append]
    rcases List.mem_cons.1 ha with rfl | ha'
    · rcases List.mem_cons.1 hc with rfl | hc'
      · exact absurd rfl ne
      · have := p1 hc' h2
        have := List.count_pos_iff.2 h1
        omega
    · rcases List.mem_cons.1 hc with rfl | hc'
      · have := p1 ha' h1
        have := List.count_pos_iff.2 h2
        omega
      · have := count_two ne h1 h2 ha' hc'
        omega

section
variable {p : LProc} {a b : Int}

theorem mrg_len : (mrg p a).blocks.length = p.blocks.length := by simp [mrg]
theorem mrg_at (j : Jn p a b) {c : Int} (h0 : 0 ≤ c) : blockAt (mrg p a) c = if c = a then mrgB p a else blockAt p c := by
  have := j.ba
  simp only [blockAt, mrg]
  split
  · rename_i q; subst q
    rw [List.getElem?_set_self (by omega)]; rfl
  · rename_i q
    rw [List.getElem?_set_ne (by omega)]

theorem Jn.ca (j : Jn p a b) : ∃ x, (blockAt p a).code = (blockAt p a).code.dropLast ++ [x] ∧ endsOk (blockAt p a).code := by
  obtain ⟨x, hx, e, _, _⟩ := laid_at (laid_true j.la) (a := a) (by have := j.ba; omega)
  have hne : (blockAt p a).code ≠ [] := fun q => by rw [q] at hx; cases hx
  exact ⟨_, (List.dropLast_concat_getLast hne).symm, e⟩

theorem mrgB_laid (j : Jn p a b) : laidB p.blocks.length (mrgB p a) := by
  obtain ⟨x, hx, e⟩ := j.ca
  obtain ⟨y, hy, e', lo, jo⟩ := laid_at (laid_true j.la) (a := b) (by have := j.bb; omega)
  have hne : (blockAt p b).code ≠ [] := fun q => by rw [q] at hy; cases hy
  have hpos : 0 < (blockAt p b).code.length := List.length_pos_iff.2 hne
  refine ⟨y, ?_, ?_, lo, jo⟩
  · simp only [mrgB, j.jb]
    rw [List.getLast?_append, hy]; rfl
  · simp only [mrgB, j.jb]
    generalize hA : (blockAt p a).code = A at *
    generalize hB : (blockAt p b).code = B at *
    intro k hk
    have hAl : A.length = A.dropLast.length + 1 := by rw [List.length_dropLast]; have : 0 < A.length := by rw [hx]; simp
                                                      omega
    rw [List.length_append] at hk ⊢
    by_cases hk1 : k < A.dropLast.length
    · rw [List.getElem_append_left hk1]
      have := e k (by omega)
      rw [List.getElem_dropLast, this]
      rw [decide_eq_decide]
      omega
    · rw [List.getElem_append_right (by omega)]
      rw [e' _ (by omega), decide_eq_decide]
      omega

theorem mrg_laid (j : Jn p a b) : laid (mrg p a) = true := by
  have hl := laid_true j.la
  refine laid_is ⟨?_, fun c hc => ?_⟩
  · show p.extern = true ↔ p.blocks.set _ _ = []
    rw [List.set_eq_nil_iff]; exact hl.1
  · rw [mrg_len]
    rcases List.mem_or_eq_of_mem_set hc with h | h
    · exact hl.2 c h
    · rw [h]; exact mrgB_laid j

theorem next_last {x y : LBlock} (h : x.code.getLast? = y.code.getLast?) : next x = next y := by simp only [next, h]

theorem mrg_succ_a (j : Jn p a b) : succ (mrg p a) a = succ p b := by
  obtain ⟨y, hy, _⟩ := laid_at (laid_true j.la) (a := b) (by have := j.bb; omega)
  rw [succ_at (p := mrg p a) (by rw [mrg_len]; have := j.ba; omega), succ_at (by have := j.bb; omega), mrg_at j j.ba.1, if_pos rfl]
  refine next_last ?_
  simp only [mrgB, j.jb]
  rw [List.getLast?_append, hy]; rfl

theorem mrg_succ (j : Jn p a b) {c : Int} (hc : 0 ≤ c ∧ c < (p.blocks.length : Int)) (hca : c ≠ a) : succ (mrg p a) c = succ p c := by
  rw [succ_at (p := mrg p a) (by rw [mrg_len]; omega), succ_at (by omega), mrg_at j hc.1, if_neg hca]

theorem mrg_order (j : Jn p a b) : order (mrg p a) = (order p).erase b := by
  have hl := laid_true j.la
  have hN := order_nums p
  have hc := (order_closed j.la j.ex).2
  have h0 := (order_closed j.la j.ex).1
  have sk : Skip p.blocks.length (succ p) (succ (mrg p a)) (· ∈ order p) a b := by
    refine ⟨laid_In hl, hN.2, hc, j.ne, j.ma, j.su, fun x hx hxa hb => ?_, mrg_succ_a j, fun x hx hxa _ => mrg_succ j (hN.2 x hx) hxa⟩
    have := count_two (f := succ p) (Ne.symm hxa) (by rw [j.su]; simp) hb j.ma hx
    have h2 := j.cn
    unfold cntB at h2
    omega
  have := (visit_skip sk (p.blocks.length + 1) (p.blocks.length + 1) [] 0 ⟨Nums.nil _, (fun x hx => by cases hx), by simp, by simp, by simp⟩ h0 (Ne.symm j.nz)).1
  rw [order_is (mrg_laid j) (show (mrg p a).extern = false from j.ex), mrg_len, order_is j.la j.ex]
  simpa using this

/-- The code of the blocks that are reached. -/
noncomputable def wide (p : LProc) : Nat := ((order p).map fun c => (blockAt p c).code.length).sum

theorem sum_mem {α : Type} {f : α → Nat} {x : α} : ∀ {l : List α}, x ∈ l → f x ≤ (l.map f).sum
  | y :: l, h => by
    rw [List.map_cons, List.sum_cons]
    rcases List.mem_cons.1 h with rfl | h
    · omega
    · have := sum_mem (f := f) h; omega

theorem mrgB_len (j : Jn p a b) : (mrgB p a).code.length + 1 = (blockAt p a).code.length + (blockAt p b).code.length := by
  obtain ⟨x, hx, e⟩ := j.ca
  simp only [mrgB, j.jb, List.length_append, List.length_dropLast]
  have : 0 < (blockAt p a).code.length := by rw [hx]; simp
  omega

theorem mrg_wide (j : Jn p a b) : wide (mrg p a) + 1 = wide p := by
  have hN := order_nums p
  have e1 : (order p).Perm (b :: (order p).erase b) := List.perm_cons_erase j.mb
  have ha : a ∈ (order p).erase b := (List.mem_erase_of_ne j.ne).2 j.ma
  have hnd : ((order p).erase b).Nodup := hN.1.erase b
  have e2 : ((order p).erase b).Perm (a :: ((order p).erase b).erase a) := List.perm_cons_erase ha
  have s1 := (e1.map fun c => (blockAt p c).code.length).sum_nat
  have s2 := (e2.map fun c => (blockAt p c).code.length).sum_nat
  have s3 := (e2.map fun c => (blockAt (mrg p a) c).code.length).sum_nat
  have s4 : ((((order p).erase b).erase a).map fun c => (blockAt (mrg p a) c).code.length) = (((order p).erase b).erase a).map fun c => (blockAt p c).code.length := by
    apply List.map_congr_left
    intro c hc
    have hca : c ≠ a := fun q => by subst q; exact hnd.not_mem_erase hc
    have hc2 := hN.2 c (List.mem_of_mem_erase (List.mem_of_mem_erase hc))
    rw [mrg_at j hc2.1, if_neg hca]
  simp only [List.map_cons, List.sum_cons] at s1 s2 s3
  have s5 : (blockAt (mrg p a) a).code.length = (mrgB p a).code.length := by rw [mrg_at j j.ba.1, if_pos rfl]
  have s6 := mrgB_len j
  rw [s4, s5] at s3
  unfold wide
  rw [mrg_order j]
  omega

theorem mrgB_small (j : Jn p a b) : (mrgB p a).code.length ≤ wide p := by
  have h := mrg_wide j
  have ha : a ∈ order (mrg p a) := by rw [mrg_order j]; exact (List.mem_erase_of_ne j.ne).2 j.ma
  have := sum_mem (f := fun c => (blockAt (mrg p a) c).code.length) ha
  have s5 : (blockAt (mrg p a) a).code.length = (mrgB p a).code.length := by rw [mrg_at j j.ba.1, if_pos rfl]
  rw [s5] at this
  unfold wide at h ⊢
  omega

theorem mrg_fit (j : Jn p a b) (hp : Fit p) (hw : wide p ≤ 1000) : Fit (mrg p a) := by
  have fa : blockAt p a ∈ p.blocks := blockAt_mem (by have := j.ba; omega)
  have fb : blockAt p b ∈ p.blocks := blockAt_mem (by have := j.bb; omega)
  have hm : ∀ c ∈ (mrg p a).blocks, c ∈ p.blocks ∨ c = mrgB p a := fun c hc => List.mem_or_eq_of_mem_set hc
  refine ⟨⟨by rw [mrg_len]; exact hp.1.1, fun c hc => ?_⟩, hp.2.1, fun c hc x hx => ?_⟩
  · rcases hm c hc with h | rfl
    · exact hp.1.2 c h
    · refine ⟨Nat.le_trans (mrgB_small j) hw, (hp.1.2 _ fa).2.1, fun x hx => ?_⟩
      simp only [mrgB, j.jb] at hx
      rcases List.mem_append.1 hx with h | h
      · exact (hp.1.2 _ fa).2.2 x (List.dropLast_subset _ h)
      · exact (hp.1.2 _ fb).2.2 x h
  · rcases hm c hc with h | rfl
    · exact hp.2.2 c h x hx
    · exact hp.2.2 _ fa x hx

/-- A procedure of which all is within the limits, before a step of Join. -/
structure JFit (p : LProc) : Prop where
  fit : Fit p
  la : laid p = true
  wd : wide p ≤ 1000
theorem JFit.mrg (h : JFit p) (j : Jn p a b) : JFit (mrg p a) := ⟨mrg_fit j h.fit h.wd, mrg_laid j, by have := mrg_wide j; have := h.wd; omega⟩
theorem mrg_ord_len (j : Jn p a b) : (order (mrg p a)).length + 1 = (order p).length := by
  rw [mrg_order j, List.length_erase_of_mem j.mb]
  have := List.length_pos_of_mem j.mb
  omega
end

/-- k steps of Join. -/
noncomputable def joinK : Nat → LProc → LProc
  | 0, p => p
  | k + 1, p => match jointS (joinK k p) with
    | some a => mrg (joinK k p) a
    | none => joinK k p
end Go.Proofs.Ytpdgjdnipkmocaa

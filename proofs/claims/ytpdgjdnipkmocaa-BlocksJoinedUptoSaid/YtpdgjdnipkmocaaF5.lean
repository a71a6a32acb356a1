/- The order of the visits: what the reference computes. -/
import Derived.Test.YtpdgjdnipkmocaaF4
set_option linter.unusedVariables false
set_option linter.unusedSimpArgs false
namespace Go.Proofs.Ytpdgjdnipkmocaa
open Go.Ev

section
variable {o : Bool} {h : AH} {d : Option Nat} {r : List COper} {κ : List KF} {s : Fr} {Q : Fr → AH → Prop}
theorem in_p (l : List Int) (x : Int) (hl : l.length < 9223372036854775807) : Pure T 35 [sl l, .int .i64 x] (.bool (decide (x ∈ l))) true := by
  refine ⟨c35, rfl, rfl, ?_⟩
  simp [c35]
  refine WK_loop tgrow (fun k s h => s 5 = .int .i64 (k : Nat) ∧ ∀ y ∈ l.take k, ¬ y = x) l.length w35_0 (by decide) (by simp) ?_
  rintro k s' h' hk ⟨e5, hj⟩ hs hg
  have f0 : s' 0 = sl l := (hs 0 (by decide)).trans (by simp)
  have f1 : s' 1 = .int .i64 x := (hs 1 (by decide)).trans (by simp)
  simp [c35_0, e5, f0]
  refine condS_split (fun hc => ?_) (fun hc => ?_) <;> simp at hc
  · simp [e5, f0, f1, evIdx_nat, rd1_ptr, hc]
    refine condS_split (fun hq => ?_) (fun hq => ?_) <;> simp at hq
    · have : x ∈ l := by rw [← hq]; exact List.getElem_mem hc
      simp [this]
    · have hk2 : k < 9223372036854775807 := by omega
      simp [e5, hk2]
      exact mem_take_succ hc hj hq
  · have hkn : k = l.length := by omega
    rw [hkn, List.take_length] at hj
    have : x ∉ l := fun q => hj x q rfl
    simp [this]
theorem in_r (l : List Int) (x : Int) (hl : l.length ≤ 10000) : pureK T 35 (some [sl l, .int .i64 x]) o h d r κ s Q = WR T r κ (Fr.put s d (.bool (decide (x ∈ l)))) h Q := pureK_eq (in_p l x (by omega)) (.inl rfl)
theorem nextR_r (b : LBlock) (hb : FitB b) : pureK T 14 (some [.agg [sl b.regs, PV.str b.free, sl b.code]]) o h d r κ s Q = WR T r κ (Fr.put s d (sl (next b))) h Q := pureK_eq (nextR_p b hb) (.inl rfl)
theorem next_r (b : LBlock) (hb : FitB b) : pureK T 13 (some [.agg [sl b.regs, PV.str b.free, sl b.code]]) o h d r κ s Q = WR T r κ (Fr.put s d (sl (next b))) h Q := pureK_eq (next_p b hb) (.inl rfl)
theorem laidR_r (p : LProc) (hp : FitP p) : pureK T 27 (some [.agg [PV.str p.name, sl p.params, PV.int .i64 p.result, sl p.sig.params, PV.str p.sig.base, sl p.sig.result, PV.str p.sig.rest, sl p.blocks, PV.bool p.extern]]) o h d r κ s Q = WR T r κ (Fr.put s d (.bool (laid p))) h Q := pureK_eq (laidR_p p hp) (.inl rfl)
theorem laid_r (p : LProc) (hp : FitP p) : pureK T 31 (some [.agg [PV.str p.name, sl p.params, PV.int .i64 p.result, sl p.sig.params, PV.str p.sig.base, sl p.sig.result, PV.str p.sig.rest, sl p.blocks, PV.bool p.extern]]) o h d r κ s Q = WR T r κ (Fr.put s d (.bool (laid p))) h Q := pureK_eq (laid_p p hp) (.inl rfl)
end

/-- The successors of a block by its number. -/
def succ (p : LProc) (a : Int) : List Int := match p.blocks[a.toNat]? with
  | some b => next b
  | none => []

/-- A list with what is visited from one more block. -/
def visit (g : Int → List Int) : Nat → List Int → Int → List Int
  | 0, l, _ => l
  | n + 1, l, a => if a ∈ l then l else (g a).foldl (visit g n) (l ++ [a])

/-- Different numbers below N. -/
def Nums (N : Nat) (l : List Int) : Prop := l.Nodup ∧ ∀ x ∈ l, 0 ≤ x ∧ x < (N : Int)

theorem Nums.snoc {N : Nat} {l : List Int} {a : Int} (h : Nums N l) (ha : a ∉ l) (h0 : 0 ≤ a ∧ a < (N : Int)) : Nums N (l ++ [a]) := by
  refine ⟨List.nodup_append.2 ⟨h.1, by simp, fun x hx y hy => ?_⟩, fun x hx => ?_⟩
  · rw [List.mem_singleton] at hy; subst hy; exact fun q => ha (q ▸ hx)
  · rcases List.mem_append.1 hx with q | q
    · exact h.2 x q
    · rw [List.mem_singleton.1 q]; exact h0

theorem Nums.length {N : Nat} {l : List Int} (h : Nums N l) : l.length ≤ N := by
  have := List.Nodup.length_le_of_subset (l₂ := (List.range N).map fun n : Nat => (n : Int)) h.1 fun x hx => by
    have := h.2 x hx
    exact List.mem_map.2 ⟨x.toNat, List.mem_range.2 (by omega), by omega⟩
  simpa using this

theorem visit_props {N : Nat} {g : Int → List Int} (hg : ∀ a, 0 ≤ a → a < (N : Int) → ∀ x ∈ g a, 0 ≤ x ∧ x < (N : Int)) :
    ∀ (n : Nat) (l : List Int) (a : Int), Nums N l → 0 ≤ a → a < (N : Int) → Nums N (visit g n l a) ∧ l <+: visit g n l a
  | 0, l, a, hl, _, _ => ⟨hl, List.prefix_refl _⟩
  | n + 1, l, a, hl, h0, h1 => by
    simp only [visit]
    split
    · exact ⟨hl, List.prefix_refl _⟩
    · rename_i ha
      have key : ∀ (xs : List Int) (l' : List Int), (∀ x ∈ xs, 0 ≤ x ∧ x < (N : Int)) → Nums N l' → Nums N (xs.foldl (visit g n) l') ∧ l' <+: xs.foldl (visit g n) l' := by
        intro xs
        induction xs with
        | nil => intro l' _ hl'; exact ⟨hl', List.prefix_refl _⟩
        | cons x xs ih =>
          intro l' hx hl'
          have h2 := visit_props hg n l' x hl' (hx x List.mem_cons_self).1 (hx x List.mem_cons_self).2
          have h3 := ih (visit g n l' x) (fun y hy => hx y (List.mem_cons_of_mem _ hy)) h2.1
          exact ⟨h3.1, h2.2.trans h3.2⟩
      have := key (g a) (l ++ [a]) (hg a h0 h1) (hl.snoc ha ⟨h0, h1⟩)
      exact ⟨this.1, (List.prefix_append _ _).trans this.2⟩

theorem fold_props {N : Nat} {g : Int → List Int} (hg : ∀ a, 0 ≤ a → a < (N : Int) → ∀ x ∈ g a, 0 ≤ x ∧ x < (N : Int)) (n : Nat) :
    ∀ (xs : List Int) (l : List Int), (∀ x ∈ xs, 0 ≤ x ∧ x < (N : Int)) → Nums N l → Nums N (xs.foldl (visit g n) l) ∧ l <+: xs.foldl (visit g n) l := by
  intro xs
  induction xs with
  | nil => intro l _ hl; exact ⟨hl, List.prefix_refl _⟩
  | cons x xs ih =>
    intro l hx hl
    have h2 := visit_props hg n l x hl (hx x List.mem_cons_self).1 (hx x List.mem_cons_self).2
    have h3 := ih (visit g n l x) (fun y hy => hx y (List.mem_cons_of_mem _ hy)) h2.1
    exact ⟨h3.1, h2.2.trans h3.2⟩

theorem foldl_take_succ {α β : Type} (f : β → α → β) (b : β) (l : List α) (k : Nat) (hk : k < l.length) : (l.take (k + 1)).foldl f b = f ((l.take k).foldl f b) l[k] := by
  rw [take_succ' hk, List.foldl_append]; rfl

/-- A procedure whose jumps stay inside. -/
def In (p : LProc) : Prop := ∀ a, 0 ≤ a → a < (p.blocks.length : Int) → ∀ x ∈ succ p a, 0 ≤ x ∧ x < (p.blocks.length : Int)

theorem jump_len {p : LProc} (hp : FitP p) (a : Int) : (succ p a).length ≤ 1000 := by
  unfold succ
  cases e : p.blocks[a.toNat]? with
  | none => simp
  | some b =>
    have := hp.2 b (List.mem_of_getElem? e)
    simp only [next]
    cases e2 : b.code.getLast? with
    | none => simp
    | some x =>
      have := (this.2.2 x (List.mem_of_getLast? e2)).2.2
      simp only
      split
      · exact this
      · simp

theorem visitR_c (p : LProc) (hp : FitP p) (hin : In p) : ∀ (n : Nat) (l : List Int) (a : Int) (v0 : PV) {h : AH} {d : Option Nat} {r : List COper} {κ : List KF} {s : Fr} {Q : Fr → AH → Prop},
    Nums p.blocks.length l → 0 ≤ a → a < (p.blocks.length : Int) → p.blocks.length + 1 ≤ n + l.length → Acc h v0 1 (l.map Enc.c).flatten l.length → h.lo ≤ h.nx →
    (∀ v h', Acc h' v 1 ((visit (succ p) n l a).map Enc.c).flatten (visit (succ p) n l a).length → Mv h v0 h' v → WR T r κ (Fr.put s d v) h' Q) →
    callK T 40 [.agg [PV.str p.name, sl p.params, PV.int .i64 p.result, sl p.sig.params, PV.str p.sig.base, sl p.sig.result, PV.str p.sig.rest, sl p.blocks, PV.bool p.extern], v0, .int .i64 a] h d r κ s Q
  | 0, l, a, v0, h, d, r, κ, s, Q, hl, h0, h1, hn, ha, hlw, next => by have := hl.length; omega
  | n + 1, l, a, v0, h, d, r, κ, s, Q, hl, h0, h1, hn, ha, hlw, next => by
    have hlen := hl.length
    have hp1 := hp.1
    refine callK_shared (c := c40) rfl rfl rfl ?_
    simp [c40, ha.snap rfl, in_r l a (by omega)]
    refine condS_split (fun hc => ?_) (fun hc => ?_) <;> simp at hc
    · simp
      refine next _ _ (by simpa [visit, hc] using ha) (Mv.refl _ _)
    simp [-WR_app]
    refine WR_app_acc (cs := (l.map Enc.c).flatten) (n := l.length) (by simpa using ha) (by simp; exact src_psl rfl) (by rfl) hlw (room (by simp; omega)) (fun v1 h2 ha1 hm1 => ?_)
    have ha1' : Acc h2 v1 1 ((l ++ [a]).map Enc.c).flatten (l.length + 1) := by simpa using ha1
    simp at hm1
    have hb : a.toNat < p.blocks.length := by omega
    have hsucc : succ p a = Go.Proofs.Ytpdgjdnipkmocaa.next p.blocks[a.toNat] := by simp [succ, hb]
    simp [evIdx_sl, h0, hb, rds_ptr, nextR_r p.blocks[a.toNat] (hp.2 _ (List.getElem_mem hb))]
    rw [← hsucc]
    have hsl := jump_len hp a
    have hNl := hl.snoc hc ⟨h0, h1⟩
    have hbds := hin a h0 h1
    have fp := fun k => fold_props hin n ((succ p a).take k) (l ++ [a]) (fun x hx => hbds x (List.mem_of_mem_take hx)) hNl
    refine WK_loop tgrow (fun k s' h' => s' 8 = .int .i64 (k : Nat) ∧ Acc h' (s' 1) 1 ((((succ p a).take k).foldl (visit (succ p) n) (l ++ [a])).map Enc.c).flatten (((succ p a).take k).foldl (visit (succ p) n) (l ++ [a])).length ∧ Mv h v0 h' (s' 1)) (succ p a).length w40_0 (by decide) (by simp; exact ⟨by simpa using ha1', hm1⟩) ?_
    rintro k s' h' hk ⟨e8, ja, jm⟩ hs hg
    have f3 : s' 3 = .pi (Enc.c p) := (hs 3 (by decide)).trans (by simp)
    have f7 : s' 7 = sl (succ p a) := (hs 7 (by decide)).trans (by simp)
    simp [c40_0, e8, f7]
    have hlk := (fp k).2.length_le
    have hlk2 := (fp k).1.length
    refine condS_split (fun hkl => ?_) (fun hkl => ?_) <;> simp at hkl
    · simp [e8, f7, f3, evIdx_nat, rd1_ptr, hkl]
      have hb2 := hbds _ (List.getElem_mem hkl)
      refine visitR_c p hp hin n _ _ _ (fp k).1 hb2.1 hb2.2 (by simp at hlk; omega) ja (by have := jm.grow; omega) (fun v h3 ha3 hm3 => ?_)
      have hk2 : k < 9223372036854775807 := by omega
      rw [← foldl_take_succ (visit (succ p) n) (l ++ [a]) (succ p a) k hkl] at ha3
      simp [e8, hk2, hkl]
      exact ⟨ha3, jm.trans hm3⟩
    · have hkn : k = (succ p a).length := by omega
      rw [hkn, List.take_length] at ja
      simp
      refine next _ _ ?_ jm
      simpa [visit, hc] using ja
end Go.Proofs.Ytpdgjdnipkmocaa

/- strings.Join, by the library's contract; functions that are known at some arguments alone. -/
import Derived.Test.YtkaabknkabdfpaaGreatDoorPrims
import Derived.Test.YtkaabknkabdfpaaGreatDoorJoin
import Derived.Test.YtkaabknkabdfpaaGreatDoorSet
set_option linter.unusedVariables false
set_option linter.unusedSimpArgs false
set_option maxRecDepth 100000
namespace Go.Proofs.YtkaabknkabdfpaaGreatDoor
open Go.Ev Go.RowKit

def strsOf : List PV → Option (List ByteArray)
  | [] => some []
  | .str b :: r => (strsOf r).map (b :: ·)
  | _ => none
theorem strsOf_eq : ∀ {cs : List PV} {l : List ByteArray}, strsOf cs = some l → cs = l.map .str
  | [], l, e => by cases e; rfl
  | c :: cs, l, e => by
    unfold strsOf at e
    split at e
    · rename_i q; cases q
    · rename_i q; cases q
      rw [Option.map_eq_some_iff] at e
      obtain ⟨l', e1, rfl⟩ := e
      rw [strsOf_eq e1]; rfl
    · cases e

def primJoin (xs : List PV) (h : AH) : Option (PV × AH) := match xs with
  | [x, .str sep] => match snap h snapDepth x with
    | some (.sl n cs) => match strsOf cs with
      | some l => if l.length = n ∧ n ≤ 140737488355328 ∧ (Lib.join (l.map (·.data.toList)) sep.data.toList).length ≤ 140737488355328 then some (.str ⟨(Lib.join (l.map (·.data.toList)) sep.data.toList).toArray⟩, h) else none
      | none => none
    | _ => none
  | _ => none

theorem strs_inv {ρ : Nat → Option (Nat × Nat)} {I : Nat → Prop} {w : World} {u : Value} {n : Nat} {l : List ByteArray} (hv : VR ρ I w u (.sl n (l.map .str))) :
    ∃ A c, u = .slice A n c ∧ n ≤ c ∧ (l ≠ [] → ∃ b o, A = some ⟨b, o, none⟩ ∧ b < w.heap.size ∧ ∀ j x, l[j]? = some x → w.cell? ⟨b, o + j, none⟩ = some (.string x)) := by
  generalize hcs : l.map PV.str = cs at hv
  cases hv with
  | @sl A n c cs uu hn hA hvs _ =>
    refine ⟨A, c, rfl, hn, fun hl => ?_⟩
    obtain ⟨b, o, rfl, _, hcell⟩ := hA (by rw [← hcs]; simpa using hl)
    have hstr : ∀ j x, l[j]? = some x → w.cell? ⟨b, o + j, none⟩ = some (.string x) := by
      intro j x hx
      have hj : j < l.length := by
        rcases Nat.lt_or_ge j l.length with z | z
        · exact z
        · rw [List.getElem?_eq_none z] at hx; cases hx
      have hj' : j < cs.length := by rw [← hcs]; simpa using hj
      rw [hcell j hj']
      have q := hvs j hj'
      have e : cs[j] = .str x := by
        have : (l.map PV.str)[j]? = some (.str x) := by rw [List.getElem?_map, hx]; rfl
        rw [hcs, List.getElem?_eq_getElem hj'] at this
        exact Option.some.inj this
      rw [e] at q
      generalize uu j = y at q
      cases q; rfl
    refine ⟨b, o, rfl, ?_, hstr⟩
    cases l with
    | nil => exact absurd rfl hl
    | cons a r =>
      have := hstr 0 a rfl
      rcases Nat.lt_or_ge b w.heap.size with z | z
      · exact z
      · simp [World.cell?, Array.getElem?_eq_none z] at this

theorem primJoin_calls [LoopSpec] {ρ : Nat → Option (Nat × Nat)} {I : Nat → Prop} {h : AH} {w : World} {A : Option Addr} {n c : Nat} {l : List ByteArray} {sep : ByteArray} (hs : SR ρ I h w) (hn : n ≤ c) (hl1 : l.length = n)
    (hA : l ≠ [] → ∃ b o, A = some ⟨b, o, none⟩ ∧ b < w.heap.size ∧ ∀ j x, l[j]? = some x → w.cell? ⟨b, o + j, none⟩ = some (.string x))
    (hl2 : n ≤ 140737488355328) (hl3 : (Lib.join (l.map (·.data.toList)) sep.data.toList).length ≤ 140737488355328) :
    Calls Tryz.prog 148 #[.slice A n c, .string sep] w (Post ρ I h w (.str ⟨(Lib.join (l.map (·.data.toList)) sep.data.toList).toArray⟩) h) := by
  subst hl1
  by_cases hne : l = []
  · subst hne
    refine (Tryz.strings_Join_none A c sep w).mono fun e w' ⟨he, hw⟩ => ?_
    subst he hw
    exact ⟨ρ, I, _, rfl, St.refl, hs, .str _⟩
  · obtain ⟨b, o, rfl, hb, hstr⟩ := hA hne
    refine (Tryz.strings_Join b o c l sep w hstr hb hl2 hn hl3).mono fun e w' ⟨he, hbw⟩ => ?_
    subst he
    obtain ⟨g1, g2⟩ := hs.grow (w' := w') (I' := I) hbw.os hbw.tape hbw.output hbw.size hbw.block (fun _ q => q) (fun _ q => .inl q) (fun k q => Nat.lt_of_lt_of_le (hs.inI k q) hbw.size)
    exact ⟨ρ, I, _, rfl, g2, g1, .str _⟩

theorem primJoin_ok [LoopSpec] : PrimOk Tryz.prog true 148 primJoin := by
  refine ⟨⟨Tryz.f148, Tryz.func148, by kernel_rfl, by kernel_rfl⟩, fun xs h r h' e ρ I w us hs hv => ?_, fun xs h r h' hw e => ?_, fun xs h r h' e => ?_, fun _ xs h r h' e => ?_⟩
  · unfold primJoin at e
    split at e
    case h_2 => cases e
    rename_i x sep
    split at e
    case h_2 => cases e
    rename_i n cs hsn
    split at e
    case h_2 => cases e
    rename_i l hl
    split at e
    case isFalse => cases e
    rename_i hc
    cases e
    obtain rfl := strsOf_eq hl
    obtain ⟨v1, v2⟩ := hv
    obtain ⟨u0, u1, rfl⟩ : ∃ u0 u1, us = #[u0, u1] := by
      rcases us with ⟨ul⟩
      match ul, v1 with
      | [a, b], _ => exact ⟨a, b, rfl⟩
    have h0 : VR ρ I w u0 x := v2 0 (by simp)
    have h1 : VR ρ I w u1 (.str sep) := v2 1 (by simp)
    cases h1
    have h2 := snap_ok (Z := fun _ => True) hs _ _ _ _ hsn (.inr fun _ _ => trivial) (.inr fun _ _ _ _ _ => trivial) h0
    obtain ⟨A, c, rfl, hn, hA⟩ := strs_inv h2
    exact primJoin_calls hs hn hc.1 hA hc.2.1 hc.2.2
  · unfold primJoin at e
    repeat' (split at e)
    all_goals first | (cases e; exact hw) | cases e
  · unfold primJoin at e
    repeat' (split at e)
    all_goals first | (cases e; exact KL.rfl' h) | cases e
  · unfold primJoin at e ⊢
    split at e
    case h_2 => cases e
    split at e
    case h_2 => cases e
    rename_i hsn
    split at e
    case h_2 => cases e
    rename_i hl
    split at e
    case isFalse => cases e
    rename_i hc
    cases e
    exact ⟨rfl, fun h2 hle => by simp only [snap_le hle snapDepth _ _ hsn, hl, if_pos hc]⟩

/-- A function on texts that is known at some texts. -/
def primTab (tab : List (ByteArray × PV)) (xs : List PV) (h : AH) : Option (PV × AH) := match xs with
  | [.str s] => (tab.find? fun p => decide (p.1 = s)).map fun p => (p.2, h)
  | _ => none

theorem primTab_ok [LoopSpec] {pu : Nat → Bool} {ow : Nat → Nat → Nat} {T : Nat → Option Fun} {n f : Nat} (ht : TOk Tryz.prog pu T) (how : ∀ f c, T f = some (.code c) → compFn Tryz.prog pu ow f = some c) (hf : f < vb) (hca : Callable Tryz.prog f)
    {tab : List (ByteArray × PV)} (he : ∀ p ∈ tab, evD Tryz.prog pu ow T n f [.str p.1] = some p.2) : PrimOk Tryz.prog true f (primTab tab) := by
  have hrl : rl f = f := Nat.mod_eq_of_lt hf
  refine ⟨by rw [hrl]; exact hca, fun xs h r h' e ρ I w us hs hv => ?_, fun xs h r h' hw e => ?_, fun xs h r h' e => ?_, fun _ xs h r h' e => ?_⟩
  · rw [hrl]
    unfold primTab at e
    split at e
    case h_2 => cases e
    rename_i s
    rw [Option.map_eq_some_iff] at e
    obtain ⟨p, e1, e2⟩ := e
    cases e2
    have hp := List.find?_some e1
    simp only [decide_eq_true_eq] at hp
    subst hp
    exact (evD_calls ht how (he p (List.mem_of_find?_eq_some e1))).2 ρ I h w us (by simp [own, snapDepth]) (by simp [allO, snap, snapDepth]) hs hv
  · unfold primTab at e
    split at e
    · rw [Option.map_eq_some_iff] at e
      obtain ⟨p, e1, e2⟩ := e
      cases e2; exact hw
    · cases e
  · unfold primTab at e
    split at e
    · rw [Option.map_eq_some_iff] at e
      obtain ⟨p, e1, e2⟩ := e
      cases e2; exact KL.rfl' h
    · cases e
  · unfold primTab at e ⊢
    split at e
    · rw [Option.map_eq_some_iff] at e
      obtain ⟨p, e1, e2⟩ := e
      cases e2
      exact ⟨rfl, fun h2 hl => by simp only [e1, Option.map_some]⟩
    · cases e

theorem ent148 [LoopSpec] : PrimOk Tryz.prog true 148 primJoin ∧ (puT 148 = true → true = true) ∧ (puT (148 + exb) = true → ∀ xs h r h', (∀ i, h.nx ≤ i → h.blk i = none) → primJoin xs h = some (r, h') → h.le h') :=
  ⟨primJoin_ok, fun _ => rfl, fun q => Bool.noConfusion (q.symm.trans (show puT (148 + exb) = false by kernel_rfl))⟩
theorem ent85 [LoopSpec] : PrimOk Tryz.prog false 85 primCC ∧ (puT 85 = true → false = true) ∧ (puT (85 + exb) = true → ∀ xs h r h', (∀ i, h.nx ≤ i → h.blk i = none) → primCC xs h = some (r, h') → h.le h') :=
  ⟨primCC_ok, fun q => Bool.noConfusion (q.symm.trans (show puT 85 = false by kernel_rfl)), fun q => Bool.noConfusion (q.symm.trans (show puT (85 + exb) = false by kernel_rfl))⟩
theorem ent36 [LoopSpec] : PrimOk Tryz.prog false 36 primSB ∧ (puT 36 = true → false = true) ∧ (puT (36 + exb) = true → ∀ xs h r h', (∀ i, h.nx ≤ i → h.blk i = none) → primSB xs h = some (r, h') → h.le h') :=
  ⟨primSB_ok, fun q => Bool.noConfusion (q.symm.trans (show puT 36 = false by kernel_rfl)), fun q => Bool.noConfusion (q.symm.trans (show puT (36 + exb) = false by kernel_rfl))⟩
end Go.Proofs.YtkaabknkabdfpaaGreatDoor

/- Find, the program's and the reference's. -/
import Derived.Test.YtkaabknkabdfpaaGreatDoorS6
set_option linter.unusedVariables false
set_option linter.unusedSimpArgs false
namespace Go.Proofs.YtkaabknkabdfpaaGreatDoor
open Go.Ev

section
variable {o : Bool} {h : AH} {d : Option Nat} {r : List COper} {κ : List KF} {s : Fr} {Q : Fr → AH → Prop}

/-- The place of the first that satisfies p, or -1. -/
def placeG {α : Type} (p : α → Bool) : List α → Int
  | [] => -1
  | x :: l => if p x then 0 else (let r := placeG p l; if r < 0 then -1 else r + 1)
theorem placeG_none {α : Type} {p : α → Bool} : ∀ {l : List α}, (∀ x ∈ l, ¬ p x = true) → placeG p l = -1
  | [], _ => rfl
  | x :: l, h => by
    have h1 : p x = false := by simpa using h x (by simp)
    simp [placeG, h1, placeG_none (l := l) fun y hy => h y (by simp [hy])]
theorem placeG_at {α : Type} {p : α → Bool} : ∀ {l : List α} {k : Nat} (hk : k < l.length), (∀ y ∈ l.take k, ¬ p y = true) → p l[k] = true → placeG p l = k
  | x :: l, 0, _, _, h => by simp at h; simp [placeG, h]
  | x :: l, k + 1, hk, h1, h2 => by
    have hx : p x = false := by simpa using h1 x (by simp)
    have ih := placeG_at (l := l) (k := k) (by simpa using hk) (fun y hy => h1 y (by simp [hy])) (by simpa using h2)
    simp only [placeG, hx, ih]
    simp; omega
theorem placeG_ge {α : Type} {p : α → Bool} : ∀ {l : List α}, -1 ≤ placeG p l ∧ (0 ≤ placeG p l ↔ l.any p = true)
  | [] => by simp [placeG]
  | x :: l => by
    have ih := placeG_ge (p := p) (l := l)
    simp only [placeG, List.any_cons, Bool.or_eq_true]
    cases hp : p x
    · simp only [Bool.false_eq_true, if_false, false_or, ← ih.2]
      split <;> refine ⟨?_, ?_⟩ <;> omega
    · simp

theorem indexP_p (l : List LProc) (f : Nat) (cs : List PV) (p : LProc → Bool) (hf : ∀ x ∈ l, Pure T f ([.agg (Enc.c x)] ++ cs) (.bool (p x)) true) (hfv : f < vb) (hc : cs.all (imm 12) = true) (hl : l.length < 9223372036854775807) :
    Pure T 48 [sl l, .fn f [] cs] (.int .i64 (placeG p l)) true := by
  refine ⟨c48, rfl, rfl, ?_⟩
  simp [c48]
  refine WK_range tgrow (fun k s h => ∀ y ∈ l.take k, ¬ p y = true) l.length w48_0 rfl (by decide) (by simp) (by simp) hl (by decide) (fun _ _ _ _ j _ => j) (by simp) ?_ ?_
  · intro k s' h' hk hj hi hs hg
    have f0 : s' 0 = sl l := (hs 0 (by decide)).trans (by simp)
    have f1 : s' 1 = .fn f [] cs := (hs 1 (by decide)).trans (by simp)
    simp [hi, f0, f1, evIdx_nat, rds_ptr, hk, hfv]
    rw [show PV.agg [PV.str l[k].name, sl l[k].params, PV.int .i64 l[k].result, sl l[k].sig.params, PV.str l[k].sig.base, sl l[k].sig.result, PV.str l[k].sig.rest, sl l[k].blocks, PV.bool l[k].extern] :: cs = [PV.agg (Enc.c l[k])] ++ cs from rfl, callK_Pure (hf _ (List.getElem_mem hk)) (by rw [List.all_append, hc]; simp)]
    simp
    refine condS_split (fun hc => ?_) (fun hc => ?_)
    · rw [placeG_at hk hj hc]
      simp [hi]
    · have := mem_take_succ hk hj (by simpa using hc)
      simpa [hi] using this
  · intro s' h' hj hs hg
    rw [List.take_length] at hj
    rw [placeG_none hj]
    simp

theorem findC_p (p : LProc) (name : ByteArray) : Pure T 49 [.agg (Enc.c p), .pi [.str name]] (.bool (decide (p.name = name))) true := by
  refine ⟨c49, rfl, rfl, ?_⟩
  simp [c49]

@[simp] theorem evMM_max {k : IntKind} {x y : Int} : evMM true [.int k x, .int k y] = some (.int k (max x y)) := by
  simp only [evMM, List.foldl_cons, List.foldl_nil, if_true, Option.some.injEq, PV.int.injEq, true_and]
  split <;> omega

def findM (i : LImage) (name : ByteArray) : Int := placeG (fun p => decide (p.name = name)) i.procs
theorem find_p (i : LImage) (name : ByteArray) (hi : i.procs.length ≤ 1000000) : Pure T 16 [.agg (Enc.c i), .str name] (.tup [.int .i64 (max (findM i name) 0), .bool (decide (0 ≤ findM i name))]) true := by
  refine ⟨c16, rfl, rfl, ?_⟩
  simp [c16]
  rw [pureK_eq (indexP_p i.procs 49 [.pi [.str name]] (fun p => decide (p.name = name)) (fun x _ => findC_p x name) (by decide) (by simp) (by omega)) (.inl rfl)]
  simp [findM]
  congr
theorem find_r (i : LImage) (name : ByteArray) (hi : i.procs.length ≤ 1000000) : pureK T 16 (some [.agg [sl i.datas, sl i.procs], .str name]) o h d r κ s Q = WR T r κ (Fr.put s d (.tup [.int .i64 (max (findM i name) 0), .bool (decide (0 ≤ findM i name))])) h Q := pureK_eq (find_p i name hi) (.inl rfl)

theorem findR_p (i : LImage) (name : ByteArray) (hi : i.procs.length ≤ 1000000) : Pure T 17 [.agg (Enc.c i), .str name] (.tup [.int .i64 (max (findM i name) 0), .bool (decide (0 ≤ findM i name))]) true := by
  refine ⟨c17, rfl, rfl, ?_⟩
  simp [c17]
  refine WK_loop tgrow (fun k s h => s 6 = .int .i64 (k : Nat) ∧ ∀ y ∈ i.procs.take k, ¬ decide (y.name = name) = true) i.procs.length w17_0 (by decide) (by simp) ?_
  rintro k s' h' hk ⟨e6, hj⟩ hs hg
  have f2 : s' 2 = .pi (Enc.c i) := (hs 2 (by decide)).trans (by simp)
  have f1 : s' 1 = .str name := (hs 1 (by decide)).trans (by simp)
  simp [c17_0, e6, f1, f2]
  refine condS_split (fun hkl => ?_) (fun hkl => ?_) <;> simp at hkl
  · have hk2 : k < 9223372036854775807 := by omega
    simp [e6, f1, f2, evIdx_nat, rd1_ptr, hkl]
    refine condS_split (fun hq => ?_) (fun hq => ?_) <;> simp at hq
    · have : findM i name = k := placeG_at hkl hj (by simp [hq])
      rw [this]
      simp [e6]
    · have := mem_take_succ hkl hj (by simpa using hq)
      simp [e6, hk2, hkl]
      simpa using this
  · have hkn : k = i.procs.length := by omega
    subst hkn
    rw [List.take_length] at hj
    have : findM i name = -1 := placeG_none hj
    rw [this]
    simp
    rfl
theorem findR_r (i : LImage) (name : ByteArray) (hi : i.procs.length ≤ 1000000) : pureK T 17 (some [.agg [sl i.datas, sl i.procs], .str name]) o h d r κ s Q = WR T r κ (Fr.put s d (.tup [.int .i64 (max (findM i name) 0), .bool (decide (0 ≤ findM i name))])) h Q := pureK_eq (findR_p i name hi) (.inl rfl)
end
end Go.Proofs.YtkaabknkabdfpaaGreatDoor

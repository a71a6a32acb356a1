/- Library functions by their contracts: the sort of whole numbers. -/
import Derived.Test.YtpdgjdnipkmocaaEvT
import Derived.Sort.Row
import Derived.Sort.Grow
set_option linter.unusedVariables false
set_option linter.unusedSimpArgs false
namespace Go.Ev
open Go.Sort Go.RowKit

def insI (x : Int) : List Int → List Int
  | [] => [x]
  | y :: r => if x ≤ y then x :: y :: r else y :: insI x r
def sortI : List Int → List Int
  | [] => []
  | x :: r => insI x (sortI r)

theorem insI_perm (x : Int) : ∀ l : List Int, (insI x l).Perm (x :: l)
  | [] => List.Perm.refl _
  | y :: r => by
    unfold insI
    split
    · exact List.Perm.refl _
    · exact ((insI_perm x r).cons y).trans (List.Perm.swap x y r)
theorem sortI_perm : ∀ l : List Int, (sortI l).Perm l
  | [] => List.Perm.refl _
  | x :: r => (insI_perm x _).trans ((sortI_perm r).cons x)
theorem insI_sorted (x : Int) : ∀ l : List Int, l.Pairwise (· ≤ ·) → (insI x l).Pairwise (· ≤ ·)
  | [], _ => by simp [insI]
  | y :: r, h => by
    unfold insI
    have h1 := List.pairwise_cons.1 h
    split
    · rename_i hxy
      refine List.pairwise_cons.2 ⟨fun a ha => ?_, h⟩
      rcases List.mem_cons.1 ha with rfl | ha
      · exact hxy
      · exact Int.le_trans hxy (h1.1 a ha)
    · rename_i hxy
      refine List.pairwise_cons.2 ⟨fun a ha => ?_, insI_sorted x r h1.2⟩
      rcases List.mem_cons.1 ((insI_perm x r).mem_iff.1 ha) with rfl | ha
      · omega
      · exact h1.1 a ha
theorem sortI_sorted : ∀ l : List Int, (sortI l).Pairwise (· ≤ ·)
  | [] => List.Pairwise.nil
  | x :: r => insI_sorted x _ (sortI_sorted r)

theorem sorted_unique : ∀ {a b : List Int}, a.Perm b → a.Pairwise (· ≤ ·) → b.Pairwise (· ≤ ·) → a = b
  | [], b, p, _, _ => by rw [List.nil_perm.1 p]
  | x :: a, b, p, ha, hb => by
    cases b with
    | nil => exact absurd p.length_eq (by simp)
    | cons y b =>
      have h1 := List.pairwise_cons.1 ha
      have h2 := List.pairwise_cons.1 hb
      have hxy : x ≤ y := by
        rcases List.mem_cons.1 (p.symm.mem_iff.1 (List.mem_cons_self (a := y) (l := b))) with e | e
        · omega
        · exact h1.1 y e
      have hyx : y ≤ x := by
        rcases List.mem_cons.1 (p.mem_iff.1 (List.mem_cons_self (a := x) (l := a))) with e | e
        · omega
        · exact h2.1 x e
      obtain rfl : x = y := by omega
      rw [sorted_unique (List.Perm.cons_inv p) h1.2 h2.2]

theorem sortI_eq (l : List Int) : (l.mergeSort fun x y => decide (x ≤ y)) = sortI l := by
  refine sorted_unique ((List.mergeSort_perm l _).trans (sortI_perm l).symm) ?_ (sortI_sorted l)
  have := List.pairwise_mergeSort (le := fun x y : Int => decide (x ≤ y)) (fun a b c h1 h2 => by simp at *; omega) (fun a b => by simp; omega) l
  exact this.imp fun h => by simpa using h

theorem insI_length (x : Int) (l : List Int) : (insI x l).length = l.length + 1 := by rw [(insI_perm x l).length_eq]; rfl
theorem sortI_length (l : List Int) : (sortI l).length = l.length := (sortI_perm l).length_eq

def ints : List PV → Option (List Int)
  | [] => some []
  | .int .i64 n :: r => match ints r with
    | some l => some (n :: l)
    | none => none
  | _ :: _ => none

theorem ints_eq : ∀ {cs : List PV} {l : List Int}, ints cs = some l → cs = l.map fun m => .int .i64 m
  | [], l, e => by cases e; rfl
  | c :: r, l, e => by
    cases c with
    | int k n =>
      cases k with
      | i64 =>
        simp only [ints] at e
        split at e
        · rename_i l' hl
          cases e
          rw [ints_eq hl]; rfl
        · cases e
      | _ => simp [ints] at e
    | _ => simp [ints] at e

theorem ints_map (l : List Int) : ints (l.map fun m => .int .i64 m) = some l := by
  induction l with
  | nil => rfl
  | cons a l ih => simp [ints, ih]

def primSort (as : List PV) (h : AH) : Option (PV × AH) :=
  match as with
  | [.emp] => some (.tup [], h)
  | [.rf z i o n] => if n = 0 then some (.tup [], h) else if h.lo ≤ i then match h.row i with
    | some cs => match ints ((cs.drop o).take n) with
      | some zs => if z = 1 ∧ o + n ≤ cs.length ∧ n < 4611686018427387904 then some (.tup [], h.set i (.cells (splice cs o ((sortI zs).map fun m => .int .i64 m)))) else none
      | none => none
    | none => none
    else none
  | _ => none

section
variable {P : Program} {f : Nat}

theorem row_some {h : AH} {i : Nat} {cs : List PV} (e : h.row i = some cs) : h.blk i = some (.cells cs) := by
  unfold AH.row at e
  split at e
  · rename_i cs' hb; cases e; exact hb
  · cases e

theorem VRL_sing {ρ : Nat → Option (Nat × Nat)} {I : Nat → Prop} {w : World} {us : Array Value} {v : PV} (hv : VRL ρ I w us [v]) : ∃ u, us = #[u] ∧ VR ρ I w u v := by
  obtain ⟨l⟩ := us
  obtain ⟨h1, h2⟩ := hv
  match l, h1, h2 with
  | [u], _, h2 => exact ⟨u, rfl, h2 0 (by simp)⟩

theorem primSort_ok (hc : Callable P (rl f))
    (h0 : ∀ (p : Option Addr) (cap : Nat) (w : World), Calls P (rl f) #[.slice p 0 cap] w fun e w' => e = .returned (.tuple #[]) ∧ w' = w)
    (h1 : ∀ (blk off cap : Nat) (zs : List Int) (w : World), Holds (Value.int .i64) w blk off zs.toArray → blk < w.heap.size → zs.length < 4611686018427387904 →
      Calls P (rl f) #[.slice (some ⟨blk, off, none⟩) zs.length cap] w fun e w' =>
        e = .returned (.tuple #[]) ∧ ∃ n os, w' = grow (putRow (Value.int .i64) (Sort.ahead w n) blk off (zs.mergeSort fun x y => decide (x ≤ y)).toArray) os) :
    PrimOk P false f primSort := by
  refine ⟨hc, fun as h r h' e ρ I w us hs hv => ?_, fun as h r h' hw e => ?_, fun as h r h' e => ?_, fun q => by cases q⟩
  · unfold primSort at e
    split at e
    · cases e
      obtain ⟨u, rfl, h2⟩ := VRL_sing hv
      cases h2
      refine (h0 _ _ w).mono fun e w' ⟨he, hw⟩ => ?_
      subst he hw
      exact ⟨ρ, I, _, rfl, St.refl, hs, .tup rfl fun j hj => absurd hj (by simp)⟩
    · rename_i z i o n
      obtain ⟨u, rfl, h2⟩ := VRL_sing hv
      split at e
      · rename_i hn
        subst hn
        cases e
        have hq : ∃ p cap, u = .slice p 0 cap := by cases h2 <;> exact ⟨_, _, rfl⟩
        obtain ⟨p, cap, rfl⟩ := hq
        refine (h0 _ _ w).mono fun e w' ⟨he, hw⟩ => ?_
        subst he hw
        exact ⟨ρ, I, _, rfl, St.refl, hs, .tup rfl fun j hj => absurd hj (by simp)⟩
      · rename_i hn
        split at e
        case isFalse => cases e
        split at e
        · rename_i cs hrow
          split at e
          · rename_i zs hz
            split at e
            · rename_i hcnd
              obtain ⟨rfl, hlen, hlim⟩ := hcnd
              cases e
              have hblk := row_some hrow
              have hzs := ints_eq hz
              have hzl : zs.length = n := by
                have := congrArg List.length hzs
                simp at this
                omega
              cases h2 with
              | rf0 => exact absurd rfl hn
              | rf hρ hnc hw hcs =>
                rename_i b o' c' C T fz
                obtain ⟨b2, o2, g2, C2, T2, g3, g4, g5, g6⟩ := hs.live i _ hblk
                rw [hρ] at g2
                cases g2
                rw [hw] at g3
                cases g3
                have hb : b < w.heap.size := by
                  rcases Nat.lt_or_ge b w.heap.size with q | q
                  · exact q
                  · rw [Array.getElem?_eq_none q] at hw; cases hw
                have hcell : ∀ j, j < zs.length → C[o' + o + j]? = some (.int .i64 (zs.getD j 0)) := by
                  intro j hj
                  have hoj : o + j < cs.length := by omega
                  have q := g5 (o + j) hoj
                  have e1 : cs[o + j] = .int .i64 (zs.getD j 0) := by
                    have e2 : ((cs.drop o).take n)[j]? = (zs.map fun m => PV.int .i64 m)[j]? := by rw [← hzs]
                    rw [List.getElem?_take, if_pos (by omega), List.getElem?_drop, List.getElem?_map, List.getElem?_eq_getElem hoj, List.getElem?_eq_getElem hj] at e2
                    rw [List.getD_eq_getElem?_getD, List.getElem?_eq_getElem hj]
                    simpa using e2
                  rw [e1] at q
                  have hsz : o' + (o + j) < C.size := by omega
                  rw [Array.getD_eq_getD_getElem?, Array.getElem?_eq_getElem hsz] at q
                  rw [Nat.add_assoc, Array.getElem?_eq_getElem hsz]
                  simp only [Option.getD_some] at q
                  generalize hx : C[o' + (o + j)] = x at q
                  cases q
                  rfl
                have hH : Holds (Value.int .i64) w b (o' + o) zs.toArray := by
                  intro j hj
                  have hj' : j < zs.length := by simpa using hj
                  refine ⟨?_, ?_⟩
                  · unfold World.cell?
                    simp only [hw]
                    rw [if_neg (by simp), hcell j hj', List.getD_eq_getElem?_getD, List.getElem?_eq_getElem hj']
                    simp [hj']
                  · unfold World.frozen?
                    simp only [hw]
                    simp
                rw [← hzl]
                refine (h1 b (o' + o) c' zs w hH hb (by omega)).mono fun e w' ⟨he, m, os, hw'⟩ => ?_
                subst he
                rw [sortI_eq] at hw'
                have hlS : (sortI zs).length = n := by rw [sortI_length, hzl]
                -- the write
                have hL : w.heap.modify b (onCells (putCells (Value.int .i64) (o' + o) (sortI zs).toArray)) = (putRow (Value.int .i64) (Sort.ahead w m) b (o' + o) (sortI zs).toArray).heap := rfl
                have hbl : (putRow (Value.int .i64) (Sort.ahead w m) b (o' + o) (sortI zs).toArray).heap[b]? = some (.cells (putCells (Value.int .i64) (o' + o) (sortI zs).toArray C) T (0, 0)) := by
                  rw [← hL, Array.getElem?_modify, if_pos rfl, hw]; rfl
                have hother : ∀ k, k ≠ b → (putRow (Value.int .i64) (Sort.ahead w m) b (o' + o) (sortI zs).toArray).heap[k]? = w.heap[k]? := by
                  intro k hk
                  rw [← hL, Array.getElem?_modify, if_neg (fun e => hk e.symm)]
                have hspl : (splice cs o ((sortI zs).map fun m => PV.int .i64 m)).length = cs.length := by
                  simp only [splice, List.length_append, List.length_take, List.length_drop, List.length_map, hlS]; omega
                obtain ⟨hs1, st1⟩ := hs.wrote (B := .cells (splice cs o ((sortI zs).map fun m => .int .i64 m))) (w' := putRow (Value.int .i64) (Sort.ahead w m) b (o' + o) (sortI zs).toArray) (by rw [hblk]; simp) hρ rfl rfl rfl
                  (by simp [Sort.ahead]) hother
                  (fun C' T' f' e => by rw [hw] at e; cases e; exact ⟨_, hbl, by simp [putCells]⟩)
                  (fun st => by
                    refine ⟨_, T, hbl, ?_, fun j hj => ?_, fun x hx => ?_⟩
                    · rw [hspl]; simp [putCells]; exact g4
                    · have hj2 : j < cs.length := by rw [← hspl]; exact hj
                      have hjC : o' + j < C.size := by omega
                      rw [Array.getD_eq_getD_getElem?]
                      simp only [putCells, Array.getElem?_mapIdx, Array.getElem?_eq_getElem hjC, Option.map_some, Option.getD_some, List.size_toArray, hlS]
                      by_cases hin : o ≤ j ∧ j < o + n
                      · rw [if_pos (by omega)]
                        have e1 : (splice cs o ((sortI zs).map fun m => PV.int .i64 m))[j] = .int .i64 ((sortI zs)[j - o]'(by omega)) := by
                          apply Option.some.inj
                          rw [← List.getElem?_eq_getElem hj]
                          simp only [splice, List.append_assoc]
                          rw [List.getElem?_append_right (by simp; omega), List.getElem?_append_left (by simp [hlS]; omega), List.getElem?_map]
                          simp only [List.length_take]
                          rw [show min o cs.length = o by omega, List.getElem?_eq_getElem (show j - o < (sortI zs).length by omega)]
                          rfl
                        rw [e1]
                        have e2 : (sortI zs).toArray[o' + j - (o' + o)]! = (sortI zs)[j - o]'(by omega) := by
                          have : o' + j - (o' + o) = j - o := by omega
                          rw [this, getElem!_pos _ _ (by simp; omega)]
                          simp
                        rw [e2]
                        exact .int _ _
                      · rw [if_neg (by omega)]
                        have e1 : (splice cs o ((sortI zs).map fun m => PV.int .i64 m))[j] = cs[j] := by
                          apply Option.some.inj
                          rw [← List.getElem?_eq_getElem hj, ← List.getElem?_eq_getElem hj2]
                          simp only [splice, List.append_assoc]
                          by_cases hjo : j < o
                          · rw [List.getElem?_append_left (by simp; omega), List.getElem?_take, if_pos hjo]
                          · rw [List.getElem?_append_right (by simp; omega), List.getElem?_append_right (by simp [hlS]; omega), List.getElem?_drop]
                            congr 1
                            simp only [List.length_take, List.length_map, hlS]
                            omega
                        rw [e1]
                        have q := g5 j hj2
                        rw [Array.getD_eq_getD_getElem?, Array.getElem?_eq_getElem hjC] at q
                        exact q.step hs st
                    · simp only [splice, List.append_assoc, List.mem_append] at hx
                      rcases hx with hx | hx | hx
                      · exact g6 x (List.mem_of_mem_take hx)
                      · obtain ⟨y, _, rfl⟩ := List.mem_map.1 hx; rfl
                      · exact g6 x (List.mem_of_mem_drop hx))
                obtain ⟨hs2, st2⟩ := hs1.grow (w' := w') (I' := I) (by rw [hw']; rfl) (by rw [hw']; rfl) (by rw [hw']; rfl) (by rw [hw', size_grow]; omega) (fun k hk => by rw [hw']; exact heap_grow_old _ _ hk) (fun _ q => q) (fun _ q => .inl q) (fun k q => by
                  have := hs1.inI k q
                  rw [hw', size_grow]; omega)
                exact ⟨ρ, I, _, rfl, st1.trans st2, hs2, .tup rfl fun j hj => absurd hj (by simp)⟩
            · cases e
          · cases e
        · cases e
    · cases e
  · unfold primSort at e
    have hset : ∀ (h : AH) (i : Nat) (B : Blk) (cs : List PV), WFH h → h.row i = some cs → WFH (h.set i B) := by
      intro h i B cs hw hr k hk
      rw [AH.set_blk]
      split
      · rename_i hki
        subst hki
        have := hw k hk
        rw [row_some hr] at this
        cases this
      · exact hw k hk
    split at e
    · cases e; exact hw
    · split at e
      · cases e; exact hw
      · split at e
        case isFalse => cases e
        split at e
        · rename_i cs hr
          split at e
          · split at e
            · cases e; exact hset _ _ _ _ hw hr
            · cases e
          · cases e
        · cases e
    · cases e
  · unfold primSort at e
    have r0 : KL h h := ⟨rfl, Nat.le_refl _, fun _ _ _ => rfl⟩
    split at e
    · cases e; exact r0
    · split at e
      · cases e; exact r0
      · split at e
        case isFalse => cases e
        rename_i hlo
        split at e
        · rename_i cs hr
          split at e
          · split at e
            · cases e; exact ⟨rfl, Nat.le_refl _, fun hl i hi => by rw [AH.set_blk, if_neg (by omega)]⟩
            · cases e
          · cases e
        · cases e
    · cases e
end
end Go.Ev

/- Functions of strings.Builder, by hand: copyCheck and String. -/
import Derived.Test.YtkaabknkabdfpaaGreatDoorLibD
import Derived.Test.YtkaabknkabdfpaaGreatDoorProg
import Derived.WalkKit
import Derived.WalkSpells
import Derived.WalkLawsBesides
import Derived.Lib.Builder
import Derived.Lib.UnsafeStr
set_option linter.unusedVariables false
set_option linter.unusedSimpArgs false
set_option maxRecDepth 100000
namespace Go.Proofs.YtkaabknkabdfpaaGreatDoor
open Go.Ev Go.RowKit

theorem rowAt_more {p : Program} {fits : TypeId → Bool} : ∀ (d : Nat) (e : TypeId) (c c' off n : Nat), c ≤ c' → rowAt p fits d e c off n = true → rowAt p fits d e c' off n = true
  | 0, _, _, _, _, _, _, h => by simp [rowAt] at h
  | d + 1, e, c, c', off, n, hc, h => by
    unfold rowAt at h ⊢
    simp only at h ⊢
    split
    · rename_i q; rw [if_pos q] at h; exact h
    · rename_i q
      rw [if_neg q] at h
      simp only [Bool.or_eq_true, Bool.and_eq_true, decide_eq_true_eq] at h ⊢
      rcases h with h | h
      · exact .inl ⟨⟨h.1.1, by omega⟩, h.2⟩
      · exact .inr ⟨by omega, h.2⟩
theorem liesAt_more {p : Program} : ∀ (d : Nat) (e : TypeId) (c c' off : Nat) (u : TypeId) (n : Nat), c ≤ c' → liesAt p d e c off u n = true → liesAt p d e c' off u n = true
  | 0, _, _, _, _, _, _, _, h => by simp [liesAt] at h
  | d + 1, e, c, c', off, u, n, hc, h => by
    unfold liesAt at h ⊢
    simp only [Bool.or_eq_true] at h ⊢
    rcases h with h | h
    · exact .inl (rowAt_more _ _ _ _ _ _ hc h)
    · right
      split at h
      · exact liesAt_more d e c c' off _ _ hc h
      · cases h

set_option maxHeartbeats 1000000 in
theorem cc_used (b : Nat) (w : World) (h0 : w.cell? ⟨b, 0, none⟩ = some (.pointer (some ⟨b, 0, none⟩))) :
    Calls Tryz.prog 85 #[.pointer (some ⟨b, 0, none⟩)] w fun e w' => e = .returned (.tuple #[]) ∧ w' = w := by
  obtain ⟨j, hj⟩ := Option.isSome_iff_exists.1 (show (Tryz.prog.info? 77).isSome = true by kernel_rfl)
  go_enter Tryz.func85, Tryz.ntmps85
  go_wp2
  rw [Lib.run_neq_ptr_same w _ Tryz.underlying74 hj]
  go_wp2
  go_end0
  exact ⟨rfl, rfl⟩

set_option maxHeartbeats 1000000 in
theorem cc_fresh (b : Nat) (C : Array Value) (w : World) (hb : w.heap[b]? = some (.cells C 79 (0, 0))) (hc : C[0]? = some (.pointer none)) (hz : 4 ≤ C.size) :
    Calls Tryz.prog 85 #[.pointer (some ⟨b, 0, none⟩)] w fun e w' => e = .returned (.tuple #[]) ∧ w' = w.setCell ⟨b, 0, none⟩ (.pointer (some ⟨b, 0, none⟩)) := by
  have h0 : w.cell? ⟨b, 0, none⟩ = some (.pointer none) := by simp [World.cell?, hb, hc]
  have hsh : w.shape? b = some (79, C.size) := by simp [World.shape?, hb]
  have hfz : w.frozen? ⟨b, 0, none⟩ = false := by simp [World.frozen?, hb]
  obtain ⟨j, hj, hjs⟩ := Option.map_eq_some_iff.1 (show (Tryz.prog.info? 77).map (·.size) = some 2 by kernel_rfl)
  have hlies : liesAt Tryz.prog Tryz.prog.depth 79 (C.size / Tryz.prog.cellsOf 79) 0 77 1 = true :=
    liesAt_more _ _ 1 _ _ _ _ (by rw [show Tryz.prog.cellsOf 79 = 4 by kernel_rfl]; omega) (by kernel_rfl)
  go_enter Tryz.func85, Tryz.ntmps85
  go_wp2
  rw [Lib.run_to_unsafe w ⟨b, 0, none⟩ Tryz.underlying74 Tryz.underlying190 hj (by rw [hjs]; decide) hsh (Nat.lt_of_lt_of_le (by decide : 0 < 4) hz)]
  simp only [Result.andThen]
  rw [Oper.upon_value]
  go_wp2
  rw [run_callFunc_extern Tryz.func147 (by kernel_rfl) (by kernel_rfl) (by kernel_rfl) (e := Extern.AbiNoEscape.same) (by kernel_rfl)]
  rw [Lib.run_noEscape]
  simp only [Result.andThen]
  rw [Oper.upon_value]
  go_wp2
  rw [Lib.run_from_unsafe w ⟨b, 0, none⟩ Tryz.underlying190 Tryz.underlying74 hj hsh hlies]
  simp only [Result.andThen]
  rw [Oper.upon_value]
  go_wp2
  go_end0
  exact ⟨rfl, rfl⟩

/-- copyCheck. -/
def primCC (xs : List PV) (h : AH) : Option (PV × AH) := match xs with
  | [.pt i 0] => if h.lo ≤ i ∧ h.ty i = some 79 then match h.row i with
      | some (.nilp :: r) => if 3 ≤ r.length then some (.tup [], h.set i (.cells (.pt i 0 :: r))) else none
      | some (.pt j 0 :: r) => if j = i then some (.tup [], h) else none
      | _ => none
    else none
  | _ => none

section
variable [LoopSpec] {ρ : Nat → Option (Nat × Nat)} {I : Nat → Prop} {h : AH} {w : World}
/-- A block whose type is noted. -/
theorem typed_row {i t : Nat} {u : Value} {cs : List PV} (hs : SR ρ I h w) (hv : VR ρ I w u (.pt i 0)) (ht : h.ty i = some t) (hr : h.row i = some cs) :
    ∃ b C, u = .pointer (some ⟨b, 0, none⟩) ∧ ρ i = some (b, 0) ∧ w.heap[b]? = some (.cells C t (0, 0)) ∧ cs.length ≤ C.size ∧ ∀ j (hj : j < cs.length), VR ρ I w (C.getD j Go.undef) cs[j] := by
  cases hv with
  | pt hρ =>
    rename_i b o'
    obtain ⟨b2, C2, f2, e1, e2⟩ := hs.typ i t ht
    rw [hρ] at e1
    cases e1
    obtain ⟨C, T, g1, g2, g3⟩ := own_row hs (row_blk hr) hρ
    rw [e2] at g1
    cases g1
    exact ⟨b, C2, rfl, hρ, e2, by omega, fun j hj => by simpa using g3.1 j hj⟩
end

theorem primCC_ok [LoopSpec] : PrimOk Tryz.prog false 85 primCC := by
  refine ⟨⟨Tryz.f85, Tryz.func85, by kernel_rfl, by kernel_rfl⟩, fun xs h r h' e ρ I w us hs hv => ?_, fun xs h r h' hw e => ?_, fun xs h r h' e => ?_, fun q => by cases q⟩
  · unfold primCC at e
    split at e
    case h_2 => cases e
    rename_i i
    split at e
    case isFalse => cases e
    rename_i hc
    obtain ⟨u, rfl, h2⟩ := VRL_sing hv
    split at e
    · rename_i rs hrow
      split at e
      case isFalse => cases e
      rename_i hlen
      cases e
      obtain ⟨b, C, rfl, hρ, hb, hsz, hcell⟩ := typed_row hs h2 hc.2 hrow
      have hsz' : 4 ≤ C.size := by simp at hsz; omega
      have hC0 : C[0]? = some (.pointer none) := by
        have q := hcell 0 (by simp)
        have hlt : 0 < C.size := by omega
        rw [Array.getD_eq_getD_getElem?, Array.getElem?_eq_getElem hlt] at q
        rw [Array.getElem?_eq_getElem hlt]
        simp only [Option.getD_some, List.getElem_cons_zero] at q
        generalize C[0] = x at q
        cases q; rfl
      have hz : szT Tryz.prog 74 = some 1 := by kernel_rfl
      obtain ⟨w2, k1, k2, k3⟩ := store_ok (P := Tryz.prog) (t := 74) (n := 1) (Y := .pt i 0) hs hz h2 h2 (h' := h.set i (.cells (.pt i 0 :: rs))) (by simp [wr, hrow])
      have hw2 : w2 = w.setCell ⟨b, 0, none⟩ (.pointer (some ⟨b, 0, none⟩)) := by
        have h0 : w.cell? ⟨b, 0, none⟩ = some (.pointer none) := by simp [World.cell?, hb, hC0]
        have hfz : w.frozen? ⟨b, 0, none⟩ = false := by simp [World.frozen?, hb]
        have : (Instr.storeAt 74 (.pointer (some ⟨b, 0, none⟩)) (.pointer (some ⟨b, 0, none⟩))).run Tryz.prog w = .ok () (w.setCell ⟨b, 0, none⟩ (.pointer (some ⟨b, 0, none⟩))) := by
          simp [Instr.storeAt, Instr.sureAddr, storeVar, Go.Ev.run_sizeOf hz, Value.cells, storeCells, Addr.add]
          rw [run_store _ _ _ _ _ rfl]; simp [h0, hfz]
        rw [this] at k1
        cases k1; rfl
      subst hw2
      refine (cc_fresh b C w hb hC0 hsz').mono fun e w' ⟨he, hw⟩ => ?_
      subst he hw
      exact ⟨ρ, I, _, rfl, k3, k2, .tup rfl fun j hj => absurd hj (by simp)⟩
    · rename_i j rs hrow
      split at e
      case isFalse => cases e
      rename_i hj
      subst hj
      cases e
      obtain ⟨b, C, rfl, hρ, hb, hsz, hcell⟩ := typed_row hs h2 hc.2 hrow
      have h0 : w.cell? ⟨b, 0, none⟩ = some (.pointer (some ⟨b, 0, none⟩)) := by
        have q := hcell 0 (by simp)
        have hlt : 0 < C.size := by simp at hsz; omega
        rw [Array.getD_eq_getD_getElem?, Array.getElem?_eq_getElem hlt] at q
        simp only [Option.getD_some, List.getElem_cons_zero] at q
        simp only [World.cell?, hb]
        rw [Array.getElem?_eq_getElem hlt]
        generalize C[0] = x at q
        cases q with
        | pt q => rw [hρ] at q; cases q; rfl
      refine (cc_used b w h0).mono fun e w' ⟨he, hw⟩ => ?_
      subst he hw
      exact ⟨ρ, I, _, rfl, St.refl, hs, .tup rfl fun j hj => absurd hj (by simp)⟩
    · cases e
  · unfold primCC at e
    split at e
    case h_2 => cases e
    split at e
    case isFalse => cases e
    split at e
    · rename_i rs hrow
      split at e
      case isFalse => cases e
      cases e
      exact hw.set' (row_blk hrow) _
    · split at e
      case isFalse => cases e
      cases e
      exact hw
    · cases e
  · unfold primCC at e
    split at e
    case h_2 => cases e
    split at e
    case isFalse => cases e
    rename_i hc
    split at e
    · split at e
      case isFalse => cases e
      cases e
      exact ⟨rfl, Nat.le_refl _, fun _ k hk => by rw [AH.set_blk, if_neg (by omega)]⟩
    · split at e
      case isFalse => cases e
      cases e
      exact ⟨rfl, Nat.le_refl _, fun _ k hk => rfl⟩
    · cases e
set_option maxHeartbeats 1000000 in
/-- String of a builder that has bytes. -/
theorem sb_some (b g cap : Nat) (C cur : Array Value) (T : TypeId) (l : List UInt8) (w : World) (hb : w.heap[b]? = some (.cells C T (0, 0))) (hc : C[1]? = some (.slice (some ⟨g, 0, none⟩) l.length cap)) (h0 : l ≠ [])
    (hg : w.heap[g]? = some (.cells cur 5 (0, 0))) (hl : l.length ≤ cap) (hcap : cap ≤ cur.size) (h63 : l.length ≤ 9223372036854775807) (hcell : ∀ (j : Nat) (x : UInt8), l[j]? = some x → cur[j]? = some (Value.int .u8 x.toNat)) :
    Calls Tryz.prog 36 #[.pointer (some ⟨b, 0, none⟩)] w fun e w' => e = .returned (.string ⟨l.toArray⟩) ∧ w' = w.drew.freeze ⟨g, 0, none⟩ l.length := by
  have hl0 : l.length ≠ 0 := by simpa using h0
  have c1 : w.drew.cell? ⟨b, 1, none⟩ = some (.slice (some ⟨g, 0, none⟩) l.length cap) := by
    have : w.drew.heap[b]? = some (.cells C T (0, 0)) := hb
    simp [World.cell?, this, hc]
  have hSD : (Builtin.unsafeSliceData_ #[75] 144 #[.slice (some ⟨g, 0, none⟩) l.length cap]).run Tryz.prog w.drew = .ok (.pointer (some ⟨g, 0, none⟩)) w.drew :=
    Lib.run_unsafeSliceData_row _ _ _ _ _ _ (by omega)
  have hUS : (Builtin.unsafeString_ #[144, 3] 9 #[.pointer (some ⟨g, 0, none⟩), .int .i64 l.length]).run Tryz.prog w.drew = .ok (.string ⟨l.toArray⟩) (w.drew.freeze ⟨g, 0, none⟩ l.length) := by
    have hg' : w.drew.heap[g]? = some (.cells cur 5 (0, 0)) := hg
    refine Lib.run_unsafeString_row w.drew 144 3 9 5 Tryz.underlying144 (by kernel_rfl) g cur.size (by simp [World.shape?, hg']) l h0 (by omega) h63 ?_
    intro j x hx
    have : (⟨g, 0, none⟩ : Addr).add j = ⟨g, j, none⟩ := by unfold Addr.add; by_cases q : j = 0 <;> simp [q]
    rw [this]
    simp [World.cell?, hg', hcell j x hx]
  go_enter Tryz.func36, Tryz.ntmps36
  go_wp2
  go_region
  all_goals (go_wp2; go_ret; exact ⟨rfl, rfl⟩)

section
variable [LoopSpec] {ρ : Nat → Option (Nat × Nat)} {I : Nat → Prop} {h : AH} {w w' : World}
/-- An own block is written one last time and given up. -/
theorem SR_spent (hs : SR ρ I h w) {j g o : Nat} (hl : h.blk j ≠ none) (hj : ρ j = some (g, o)) (hos : w'.os = w.os) (htape : w'.tape = w.tape) (hout : w'.output = w.output) (hsz : w'.heap.size = w.heap.size)
    (hold : ∀ k, k ≠ g → w'.heap[k]? = w.heap[k]?) (hrow : ∀ (C : Array Value) (T : TypeId) (f : Nat × Nat), w.heap[g]? = some (Obj.cells C T f) → ∃ (C' : Array Value) (f' : Nat × Nat), w'.heap[g]? = some (Obj.cells C' T f') ∧ C'.size = C.size)
    (hoth : Oth w w' g) : SR ρ I (h.del j) w' ∧ St ρ I h w ρ I (h.del j) w' := by
  have live' : ∀ i, (h.del j).blk i ≠ none → h.blk i ≠ none ∧ i ≠ j := fun i hi => by
    by_cases e : i = j
    · rw [AH.del_blk, if_pos e] at hi; exact absurd rfl hi
    · rw [AH.del_blk, if_neg e] at hi; exact ⟨hi, e⟩
  have st : St ρ I h w ρ I (h.del j) w' :=
    { ext := fun _ _ e => e, imm := fun _ e => e, immNew := fun _ e => .inl e, os := hos, tape := htape, output := hout, size := by omega
      keep := fun k _ hn => hold k fun e => by
        subst e
        exact hn j o hl hj
      row := fun k C T f e => by
        by_cases hk : k = g
        · subst hk; exact hrow C T f e
        · exact ⟨C, f, (hold k hk).trans e, rfl⟩
      oth := fun k => by
        by_cases hk : k = g
        · subst hk; exact hoth
        · exact .same (hold k hk)
      own := fun i k o' hi e => .inr ⟨i, o', (live' i hi).1, e⟩
      nxle := Nat.le_refl _
      low := fun i x e => .inl e }
  exact ⟨{ live := fun i B e => by
            have hi := live' i (by rw [e]; simp)
            rw [AH.del_blk, if_neg hi.2] at e
            obtain ⟨b, o', g1, hB⟩ := hs.live i B e
            exact ⟨b, o', g1, hB.step hs st (hold b fun q => by subst q; exact hi.2 (hs.inj i j _ _ _ hi.1 hl g1 hj))⟩
           inj := fun i k b o1 o2 h1 h2 e1 e2 => hs.inj i k b o1 o2 (live' i h1).1 (live' k h2).1 e1 e2
           apart := fun i b o1 h1 e1 => hs.apart i b o1 (live' i h1).1 e1
           nx := hs.nx, inI := fun b e => by have := hs.inI b e; omega, typ := hs.typ.mono st.ext st.row }, st⟩
end

/-- A row of bytes. -/
def bytesOf : List PV → Option (List UInt8)
  | [] => some []
  | .int .u8 n :: r => if 0 ≤ n ∧ n < 256 then (bytesOf r).map (n.toNat.toUInt8 :: ·) else none
  | _ => none
theorem bytesOf_get : ∀ {cs : List PV} {l : List UInt8}, bytesOf cs = some l → l.length = cs.length ∧ ∀ (j : Nat) (x : UInt8), l[j]? = some x → cs[j]? = some (.int .u8 x.toNat)
  | [], l, e => by cases e; exact ⟨rfl, fun j x q => by simp at q⟩
  | c :: cs, l, e => by
    unfold bytesOf at e
    split at e
    · rename_i q; cases q
    · rename_i n r q
      cases q
      split at e
      case isFalse => cases e
      rename_i hn
      rw [Option.map_eq_some_iff] at e
      obtain ⟨l', e1, rfl⟩ := e
      obtain ⟨h1, h2⟩ := bytesOf_get e1
      refine ⟨by simp [h1], fun j x q => ?_⟩
      cases j with
      | zero =>
        simp only [List.getElem?_cons_zero, Option.some.injEq] at q
        subst q
        have : ((n.toNat.toUInt8).toNat : Int) = n := by
          have : n.toNat.toUInt8.toNat = n.toNat := by simp; omega
          omega
        rw [this]; rfl
      | succ j => exact h2 j x (by simpa using q)
    · cases e

/-- String: the bytes, copied; the buffer is given up (nobody may write what a string shares). -/
def primSB (xs : List PV) (h : AH) : Option (PV × AH) := match xs with
  | [.pt i 0] => if h.ty i = some 79 then match h.row i with
      | some (_ :: .rf 1 j 0 (n + 1) :: _) => if h.lo ≤ j ∧ h.ty j = some 5 then match h.row j with
          | some cs => if n + 1 ≤ cs.length ∧ n < 9223372036854775807 then match bytesOf (cs.take (n + 1)) with
              | some l => some (.str ⟨l.toArray⟩, h.del j)
              | none => none
            else none
          | none => none
        else none
      | _ => none
    else none
  | _ => none

theorem primSB_ok [LoopSpec] : PrimOk Tryz.prog false 36 primSB := by
  refine ⟨⟨Tryz.f36, Tryz.func36, by kernel_rfl, by kernel_rfl⟩, fun xs h r h' e ρ I w us hs hv => ?_, fun xs h r h' hw e => ?_, fun xs h r h' e => ?_, fun q => by cases q⟩
  · unfold primSB at e
    split at e
    case h_2 => cases e
    rename_i i
    split at e
    case isFalse => cases e
    rename_i hti
    obtain ⟨u, rfl, h2⟩ := VRL_sing hv
    split at e
    case h_2 => cases e
    rename_i x0 j n rs hrow
    split at e
    case isFalse => cases e
    rename_i hj
    split at e
    case h_2 => cases e
    rename_i cs hcs
    split at e
    case isFalse => cases e
    rename_i hn
    split at e
    case h_2 => cases e
    rename_i l hl
    cases e
    obtain ⟨b, C, rfl, hρ, hb, hsz, hcell⟩ := typed_row hs h2 hti hrow
    obtain ⟨l1, l2⟩ := bytesOf_get hl
    have hll : l.length = n + 1 := by rw [l1, List.length_take]; omega
    have q := hcell 1 (by simp)
    have hlt : 1 < C.size := by simp at hsz; omega
    rw [Array.getD_eq_getD_getElem?, Array.getElem?_eq_getElem hlt] at q
    simp only [Option.getD_some, List.getElem_cons_succ, List.getElem_cons_zero] at q
    generalize hx : C[1] = x at q
    have hC1 : C[1]? = some x := by rw [Array.getElem?_eq_getElem hlt, hx]
    cases q with
    | rf hρj hnc hw hcap =>
      rename_i g o' cap Cg Tg fg
      obtain ⟨g2, C2, f2, e1, e2⟩ := hs.typ j 5 hj.2
      rw [hρj] at e1
      cases e1
      obtain ⟨C3, T3, g1, g3, g4⟩ := own_row hs (row_blk hcs) hρj
      rw [e2] at g1
      have e9 := e2
      have hh := e2.symm.trans hw
      cases hh
      clear hw
      cases g1
      have hln : l ≠ [] := fun q => by rw [q] at hll; simp at hll
      have hC1' : C[1]? = some (.slice (some ⟨g, 0, none⟩) l.length cap) := by rw [hC1, hll, Nat.add_zero]
      refine (sb_some b g cap C Cg 79 l w hb hC1' hln e2 (by omega) (by simpa using hcap) (by omega) fun k x hk => ?_).mono fun e w' ⟨he, hw⟩ => ?_
      · have q := l2 k x hk
        have hk1 : k < n + 1 := by
          rcases Nat.lt_or_ge k l.length with z | z
          · omega
          · rw [List.getElem?_eq_none z] at hk; cases hk
        rw [List.getElem?_take, if_pos hk1] at q
        have hk2 : k < cs.length := by omega
        rw [List.getElem?_eq_getElem hk2] at q
        have q2 := g4.1 k hk2
        have hk3 : 0 + k < Cg.size := by omega
        rw [Option.some.inj q, Array.getD_eq_getD_getElem?, Array.getElem?_eq_getElem hk3] at q2
        simp only [Option.getD_some] at q2
        have : Cg[k]? = Cg[0 + k]? := by rw [Nat.zero_add]
        rw [this, Array.getElem?_eq_getElem hk3]
        generalize Cg[0 + k] = y at q2
        cases q2; rfl
      · subst he hw
        obtain ⟨s1, s2⟩ := hs.drew
        have hg : w.drew.heap[g]? = some (.cells Cg 5 (0, 0)) := e2
        have hne : l.length ≠ 0 := by omega
        have hgl : g < w.drew.heap.size := by
          rcases Nat.lt_or_ge g w.drew.heap.size with z | z
          · exact z
          · rw [Array.getElem?_eq_none z] at hg; cases hg
        have hfr : (w.drew.freeze ⟨g, 0, none⟩ l.length).heap[g]? = some (.cells Cg 5 (0, 0 + l.length)) := by
          simp only [World.freeze, if_neg hne, Array.getElem?_modify, if_true, hg, Option.map_some]
          simp
        obtain ⟨k1, k2⟩ := SR_spent (w' := w.drew.freeze ⟨g, 0, none⟩ l.length) s1 (j := j) (by rw [row_blk hcs]; simp) hρj (by simp [World.freeze, hne]) (by simp [World.freeze, hne]) (by simp [World.freeze, hne]) (by simp [World.freeze, hne])
          (fun k hk => by simp only [World.freeze, if_neg hne, Array.getElem?_modify]; rw [if_neg (Ne.symm hk)])
          (fun C T f q => by rw [hg] at q; cases q; exact ⟨_, _, hfr, rfl⟩) ⟨fun r q => (by rw [hg] at q; cases q), fun d q => (by rw [hg] at q; cases q)⟩
        exact ⟨ρ, I, _, rfl, s2.trans k2, k1, .str _⟩
  · unfold primSB at e
    repeat' (split at e)
    all_goals first | (cases e; exact hw.del _) | cases e
  · unfold primSB at e
    split at e
    case h_2 => cases e
    split at e
    case isFalse => cases e
    split at e
    case h_2 => cases e
    split at e
    case isFalse => cases e
    rename_i hj
    split at e
    case h_2 => cases e
    split at e
    case isFalse => cases e
    split at e
    case h_2 => cases e
    cases e
    exact KL.del h hj.1
end Go.Proofs.YtkaabknkabdfpaaGreatDoor

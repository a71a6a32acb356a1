/- Each operation of the abstract machine stands for the machine's own: addresses, parts, slices, calls' arguments. -/
import Derived.Test.YtpdgjdnipkmocaaEvE
set_option linter.unusedVariables false
set_option linter.unusedSimpArgs false
namespace Go.Ev
section
variable {P : Program} {ρ : Nat → Option (Nat × Nat)} {I : Nat → Prop} {h : AH} {w : World} {nt : Nat} {a : Act} {s : Fr} {u u' : Value} {v X Y : PV}

theorem isNil_false (e : isNil X = some false) (hv : VR ρ I w u X) :
    (match u with | .pointer none | .nilIface | .nilFunc | .slice none _ _ | .map none => False | _ => True) ∧ (∀ m first cap, u ≠ .func (.method m) first cap) := by
  unfold isNil at e
  split at e <;> first | cases e | skip
  · cases hv; exact ⟨trivial, fun _ _ _ => by simp⟩
  · cases hv; exact ⟨trivial, fun _ _ _ => by simp⟩
  · cases hv; exact ⟨trivial, fun _ _ _ => by simp⟩
  · cases hv; exact ⟨trivial, fun _ _ _ => by simp⟩
  · cases hv with
    | sl us hn hA hv _ =>
      obtain ⟨b, o, rfl, _⟩ := hA (by simp)
      exact ⟨trivial, fun _ _ _ => by simp⟩
  · cases hv with
    | rf h1 h2 h3 h4 => exact ⟨trivial, fun _ _ _ => by simp⟩

theorem nilchk_ok {o : Oper} {x : Operand} (ho : o.op = .nilCheck x) (e : isNil X = some false) (hv : VR ρ I w (a.eval x) X) : (execOp a.eval o).run P w = .ok (.value (a.eval x)) w := by
  obtain ⟨h1, h2⟩ := isNil_false e hv
  simp only [execOp, ho]
  generalize a.eval x = u at *
  cases u with
  | pointer p => cases p with
    | none => exact h1.elim
    | some p => rfl
  | func f first cap => cases f with
    | method m => exact absurd rfl (h2 m first cap)
    | _ => rfl
  | nilIface => exact h1.elim
  | nilFunc => exact h1.elim
  | _ => rfl

theorem eqn_ptr {d : Nat} {t e : TypeId} (hu : P.underlying t = some (.pointer e)) (A : Option Addr) : (Op.equalIn (d + 1) t (.pointer A) (.pointer none)).run P w = .ok A.isNone w := by
  cases A <;> simp [Op.equalIn, run_underlying hu]
theorem eqn_slice {d : Nat} {t e : TypeId} (hu : P.underlying t = some (.slice e)) (A : Addr) (n c : Nat) : (Op.equalIn (d + 1) t (.slice (some A) n c) (.slice none 0 0)).run P w = .ok false w := by
  simp [Op.equalIn, run_underlying hu]
theorem eqn_map {d : Nat} {t k e : TypeId} (hu : P.underlying t = some (.map k e)) (A : Option Nat) : (Op.equalIn (d + 1) t (.map A) (.map none)).run P w = .ok A.isNone w := by
  cases A <;> simp [Op.equalIn, run_underlying hu]
theorem eqn_func {d : Nat} {t : TypeId} {p q : Array TypeId} {r : Bool} (hu : P.underlying t = some (.func p q r)) (f : Fn) (x y : Array Value) : (Op.equalIn (d + 1) t (.func f x y) .nilFunc).run P w = .ok false w := by
  simp [Op.equalIn, run_underlying hu]
theorem eqn_func' {d : Nat} {t : TypeId} {p q : Array TypeId} {r : Bool} (hu : P.underlying t = some (.func p q r)) : (Op.equalIn (d + 1) t .nilFunc .nilFunc).run P w = .ok true w := by
  simp [Op.equalIn, run_underlying hu]

theorem isnil_ok {op : BinOp} {t : TypeId} {x y : Operand} {k : Nat} {r : Bool} (hop : op = .eql ∨ op = .neq) (hk : nilKind (P.underlying t) y = some k) (hv : VR ρ I w u X) (e : isNilK k X = some r) :
    (do eqGuard op t x y u (a.eval y); binOp op t u (a.eval y) : Sem Value).run P w = .ok (.bool (r != (op == .neq))) w := by
  have fin : ∀ z : Value, (eqGuard op t x y u z).run P w = .ok () w → (Op.equal t u z).run P w = .ok r w →
      (∀ o : BinOp, o = .eql ∨ o = .neq → (binOp o t u z).run P w = ((Op.equal t u z).run P w).andThen fun b w' => .ok (.bool (if o = .eql then b else !b)) w') →
      (do eqGuard op t x y u z; binOp op t u z : Sem Value).run P w = .ok (.bool (r != (op == .neq))) w := by
    intro z k1 k2 k3
    rcases hop with rfl | rfl
    · simp [k1, k3 .eql (.inl rfl), k2]
      try (cases r <;> rfl)
    · simp [k1, k3 .neq (.inr rfl), k2]
      try (cases r <;> rfl)
  unfold nilKind at hk
  split at hk
  · rename_i d e' hu
    cases hk
    have hu' := hu
    unfold isNilK at e
    cases X <;> simp only [reduceCtorEq, Option.some.injEq] at e <;> subst e <;> cases hv <;>
      exact fin (.pointer none) (by simp [eqGuard]) (eqn_ptr (d := 9999) hu' _) (by rintro o (rfl | rfl) <;> simp [binOp])
  · rename_i d e' hu
    cases hk
    have hu' := hu
    have hA : ∃ ad n c, u = .slice (some ad) n c ∧ r = false := by
      cases X with
      | sl n cs =>
        cases n <;> cases cs <;> simp [isNilK] at e
        subst e
        cases hv with
        | sl us hn hA hv _ =>
          obtain ⟨b, o, rfl, _⟩ := hA (by simp)
          exact ⟨_, _, _, rfl, rfl⟩
      | rf z i o n =>
        cases n <;> simp [isNilK] at e
        subst e
        cases hv with
        | rf h1 h2 h3 h4 => exact ⟨_, _, _, rfl, rfl⟩
      | _ => simp [isNilK] at e
    obtain ⟨ad, n, c, rfl, rfl⟩ := hA
    exact fin (.slice none 0 0) (by simp [eqGuard]) (eqn_slice (d := 9999) hu' _ _ _) (by rintro o (rfl | rfl) <;> simp [binOp])
  · rename_i d e' hu
    cases hk
    have hu' := hu
    unfold isNilK at e
    cases X <;> simp only [reduceCtorEq, Option.some.injEq] at e <;> subst e <;> cases hv <;>
      exact fin (.map none) (by simp [eqGuard]) (eqn_map (d := 9999) hu' _) (by rintro o (rfl | rfl) <;> simp [binOp])
  · rename_i d e' hu
    cases hk
    have hu' := hu
    unfold isNilK at e
    cases X <;> simp only [reduceCtorEq, Option.some.injEq] at e <;> subst e <;> cases hv <;>
      exact fin .nilFunc (by simp [eqGuard]) (by first | exact eqn_func (d := 9999) hu' _ _ _ | exact eqn_func' (d := 9999) hu') (by rintro o (rfl | rfl) <;> simp [binOp])
  · cases hk

theorem field_run {t : TypeId} {fs : Array Field} {f : Field} {i n b o : Nat} (hu : P.underlying t = some (.struct fs)) (hf : fs[i]? = some f) (hn : szT P f.type = some n) (h0 : n ≠ 0) :
    (Instr.fieldAt t (.pointer (some ⟨b, o, none⟩)) i).run P w = .ok (.pointer (some ⟨b, o + f.offset, none⟩)) w := by
  simp [Instr.fieldAt, run_underlying hu, hf, Instr.sureAddr, fieldPlace, run_sizeOf hn, h0, Addr.add_mid]

/-- A pointer moved on. -/
theorem ptr_add {p q : PV} {k : Nat} (hv : VR ρ I w u p) (e : evFld k p = some q) :
    ∃ b o, u = .pointer (some ⟨b, o, none⟩) ∧ VR ρ I w (.pointer (some ⟨b, o + k, none⟩)) q := by
  cases p with
  | pt i o =>
    cases e
    cases hv with
    | pt hρ =>
      rename_i b o'
      refine ⟨b, o' + o, rfl, ?_⟩
      rw [Nat.add_assoc]
      exact .pt hρ
  | pi cs =>
    cases e
    cases hv with
    | pi us hI hA hv ho =>
      rename_i b o
      refine ⟨b, o, rfl, .pi (fun j => us (k + j)) hI (fun j hj => ?_) (fun j hj => ?_) (fun x hx => ho x (List.mem_of_mem_drop hx))⟩
      · rw [List.length_drop] at hj
        rw [Nat.add_assoc]
        exact hA (k + j) (by omega)
      · rw [List.getElem_drop]
        exact hv (k + j) _
  | _ => cases e

theorem idx_run {t e : TypeId} {z n c b o : Nat} {k : IntKind} {i : Int} (hu : P.underlying t = some (.slice e)) (hz : szT P e = some z) (h0 : 0 ≤ i) (h1 : i < n) :
    (Instr.indexAt t (.slice (some ⟨b, o, none⟩) n c) (.int k i)).run P w = .ok (.pointer (some ⟨b, o + i.toNat * z, none⟩)) w := by
  simp [Instr.indexAt, asIntOf, run_underlying hu, h0, h1, run_sizeOf hz, Addr.add_mid]

theorem idxp_run {t e : TypeId} {z n b o : Nat} {k : IntKind} {i : Int} (hu : P.underlying t = some (.array n e)) (hz : szT P e = some z) (h0 : 0 ≤ i) (h1 : i < n) :
    (Instr.indexAt t (.pointer (some ⟨b, o, none⟩)) (.int k i)).run P w = .ok (.pointer (some ⟨b, o + i.toNat * z, none⟩)) w := by
  simp [Instr.indexAt, asIntOf, run_underlying hu, h0, h1, run_sizeOf hz, Addr.add_mid, Instr.sureAddr]

theorem part_ok {t : TypeId} {g : Bool} {n off : Nat} {cs : List PV} (hg : isAggT P t = some g) (hn : szT P t = some n) (hv : VR ρ I w u (.agg cs)) (e : partP g cs off n = some v) :
    ∃ C r, u = .agg C ∧ (part t C off).run P w = .ok r w ∧ VR ρ I w r v := by
  cases hv with
  | agg h1 hc ho =>
    rename_i C
    unfold partP at e
    cases g with
    | true =>
      simp only [if_true] at e
      split at e
      · rename_i hle
        cases e
        refine ⟨C, .agg (C.extract off (off + n)), rfl, by simp [part, run_isAgg hg, run_sizeOf hn], .agg (by simp; omega) (fun j hj => ?_) (fun x hx => ho x (List.mem_of_mem_drop (List.mem_of_mem_take hx)))⟩
        have hj' : j < n := by simp at hj; omega
        have := hc (off + j) (by omega)
        rw [List.getElem_take, List.getElem_drop]
        have e1 : (C.extract off (off + n)).getD j undef = C.getD (off + j) undef := by
          simp [Array.getD, show off + j < C.size by omega, show j < min (off + n) C.size - off by omega]
        rw [e1]
        exact this
      · cases e
    | false =>
      simp only [Bool.false_eq_true, if_false] at e
      have hlt : off < cs.length := by
        rcases Nat.lt_or_ge off cs.length with q | q
        · exact q
        · rw [List.getElem?_eq_none q] at e; cases e
      rw [List.getElem?_eq_getElem hlt] at e
      cases e
      exact ⟨C, C.getD off undef, rfl, part_cell hg (by simp [Array.getD, show off < C.size by omega]), hc off hlt⟩

theorem bnd_ok {y : Nat} {r : Nat} {code : BoundsCode} (e : bnd X y = some r) (hv : VR ρ I w u X) : (Instr.sliceBound u y code).run P w = .ok r w ∧ r ≤ y := by
  unfold bnd at e
  split at e
  · rename_i k i
    rw [hv.int_inv]
    split at e
    · rename_i hi
      cases e
      refine ⟨by simp [Instr.sliceBound, asIntOf, hi], by omega⟩
    · cases e
  · cases e

/-- Bounds of a slice expression without a third index. -/
theorem bounds2 {isS : Bool} {n c l m : Nat} {lo hi : Option Operand} {Lo Hi : Option Opd} (hlo : opdO lo = some Lo) (hhi : opdO hi = some Hi) (hf : FR ρ I w nt a s) (hnc : n ≤ c)
    (e1 : bndO (Hi.map (Opd.val s)) n n = some m) (e2 : bndO (Lo.map (Opd.val s)) 0 m = some l) :
    (Instr.sliceBounds isS n c (lo.map a.eval) (hi.map a.eval) none).run P w = .ok (l, m, c) w ∧ l ≤ m ∧ m ≤ n := by
  have up : ∀ {X : PV} {y y' r : Nat}, bnd X y = some r → y ≤ y' → bnd X y' = some r := by
    intro X y y' r e hy
    cases X with
    | int k i =>
      simp only [bnd] at e ⊢
      split at e
      · rename_i hi'
        rw [if_pos ⟨hi'.1, by omega⟩]
        exact e
      · cases e
    | _ => simp [bnd] at e
  have hM : m ≤ n ∧ (hi = none ∧ m = n ∨ ∃ x, hi = some x ∧ ∀ code, (Instr.sliceBound (a.eval x) c code).run P w = .ok m w) := by
    cases hi with
    | none =>
      simp [opdO] at hhi
      subst hhi
      simp only [Option.map_none, bndO] at e1
      cases e1
      exact ⟨Nat.le_refl _, .inl ⟨rfl, rfl⟩⟩
    | some x =>
      simp only [opdO, Option.map_eq_some_iff] at hhi
      obtain ⟨X, hX, rfl⟩ := hhi
      simp only [Option.map_some, bndO] at e1
      exact ⟨(bnd_ok (P := P) (code := .sliceB) e1 (opd_vr hX hf)).2, .inr ⟨x, rfl, fun code => (bnd_ok (up e1 hnc) (opd_vr hX hf)).1⟩⟩
  have hL : l ≤ m ∧ (lo = none ∧ l = 0 ∨ ∃ x, lo = some x ∧ ∀ code, (Instr.sliceBound (a.eval x) m code).run P w = .ok l w) := by
    cases lo with
    | none =>
      simp [opdO] at hlo
      subst hlo
      simp only [Option.map_none, bndO] at e2
      cases e2
      exact ⟨Nat.zero_le _, .inl ⟨rfl, rfl⟩⟩
    | some x =>
      simp only [opdO, Option.map_eq_some_iff] at hlo
      obtain ⟨X, hX, rfl⟩ := hlo
      simp only [Option.map_some, bndO] at e2
      exact ⟨(bnd_ok (P := P) (code := .sliceB) e2 (opd_vr hX hf)).2, .inr ⟨x, rfl, fun code => (bnd_ok e2 (opd_vr hX hf)).1⟩⟩
  refine ⟨?_, hL.1, hM.1⟩
  rcases hM.2 with ⟨rfl, rfl⟩ | ⟨x, rfl, hx⟩ <;> rcases hL.2 with ⟨rfl, rfl⟩ | ⟨y, rfl, hy⟩ <;> simp [Instr.sliceBounds, *]
end
end Go.Ev

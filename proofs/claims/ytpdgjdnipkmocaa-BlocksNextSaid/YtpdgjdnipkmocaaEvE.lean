/- Each operation of the abstract machine stands for the machine's own: arithmetic, comparisons, addresses, slices of slices. -/
import Derived.Test.YtpdgjdnipkmocaaEvD
import Derived.Laws.StructEq
set_option linter.unusedVariables false
set_option linter.unusedSimpArgs false
namespace Go.Ev
section
variable {P : Program} {ρ : Nat → Option (Nat × Nat)} {I : Nat → Prop} {h : AH} {w : World} {nt : Nat} {a : Act} {s : Fr} {u u' : Value} {v X Y : PV}

theorem VR.int_inv {k : IntKind} {n : Int} (hv : VR ρ I w u (.int k n)) : u = .int k n := by cases hv; rfl
theorem VR.str_inv {b : ByteArray} (hv : VR ρ I w u (.str b)) : u = .string b := by cases hv; rfl
theorem VR.bool_inv {b : Bool} (hv : VR ρ I w u (.bool b)) : u = .bool b := by cases hv; rfl

theorem guard_int {op : BinOp} {t : TypeId} {x y : Operand} {k k' : IntKind} {m n : Int} : (eqGuard op t x y (.int k m) (.int k' n)).run P w = .ok () w := by
  simp [eqGuard]
theorem guard_str {op : BinOp} {t : TypeId} {x y : Operand} {m n : ByteArray} : (eqGuard op t x y (.string m) (.string n)).run P w = .ok () w := by
  simp [eqGuard]
theorem guard_bool {op : BinOp} {t : TypeId} {x y : Operand} {m n : Bool} : (eqGuard op t x y (.bool m) (.bool n)).run P w = .ok () w := by
  simp [eqGuard]

def conc : PV → Value
  | .bool b => .bool b
  | .int k n => .int k n
  | .str s => .string s
  | _ => undef

theorem bin_ok {op : BinOp} {t : TypeId} {x y : Operand} (e : evBin op X Y = some v) (hx : VR ρ I w u X) (hy : VR ρ I w u' Y) :
    (do eqGuard op t x y u u'; binOp op t u u' : Sem Value).run P w = .ok (conc v) w ∧ VR ρ I w (conc v) v := by
  unfold evBin at e
  split at e
  · rename_i k m k' n
    rw [hx.int_inv, hy.int_inv]
    split at e
    · cases e
    · rename_i hn
      cases e
      exact ⟨by simp [conc, guard_int, binOp, Op.shift, hn], .int _ _⟩
  · rename_i k m k' n
    rw [hx.int_inv, hy.int_inv]
    split at e
    · cases e
    · rename_i hn
      cases e
      exact ⟨by simp [conc, guard_int, binOp, Op.shift, hn], .int _ _⟩
  · rename_i op' k m k' n h1 h2
    rw [hx.int_inv, hy.int_inv]
    split at e
    · cases e
    · rename_i hk
      have hk' : k = k' := by simpa using hk
      subst hk'
      cases op <;> simp only [reduceCtorEq] at e <;> first
        | (exact absurd rfl (h1 rfl))
        | (exact absurd rfl (h2 rfl))
        | (exact (h1 rfl).elim)
        | (exact (h2 rfl).elim)
        | (cases e; exact ⟨by simp [conc, guard_int, binOp, Op.intArith, Op.intCmp, Op.intBits], by constructor⟩)
        | (split at e <;> first | (cases e; done) | (rename_i hn; cases e; exact ⟨by simp [conc, guard_int, binOp, Op.intDiv, hn], by constructor⟩))
        | (cases e; done)
  all_goals first
    | (rename_i b c
       rw [hx.str_inv, hy.str_inv]
       first
         | (cases e; exact ⟨by simp [conc, guard_str, binOp, Op.stringOp, bytes_eq], by constructor⟩)
         | (split at e <;> first | (cases e; done) | (rename_i hn; cases e; exact ⟨by simp only [Sem.run_bind, guard_str, Result.andThen_ok, binOp, Op.stringOp, if_neg hn]; rfl, by constructor⟩)))
    | (cases e; done)

theorem eqb_ok {op : BinOp} {t : TypeId} {x y : Operand} {b c : Bool} (hop : op = .eql ∨ op = .neq) (ht : P.underlying t = some .bool) (hx : VR ρ I w u (.bool b)) (hy : VR ρ I w u' (.bool c)) :
    ∃ r, (do eqGuard op t x y u u'; binOp op t u u' : Sem Value).run P w = .ok r w ∧ VR ρ I w r (.bool ((b == c) != (op == .neq))) := by
  rw [hx.bool_inv, hy.bool_inv]
  have h1 : (Op.equal t (.bool b) (.bool c)).run P w = .ok (b == c) w := run_equalIn_bool' (P := P) w 9999 t b c ht
  rcases hop with rfl | rfl
  · refine ⟨.bool (b == c), by simp [guard_bool, binOp, h1], ?_⟩
    have : ((b == c) != (BinOp.eql == BinOp.neq)) = (b == c) := by cases b <;> cases c <;> rfl
    rw [this]; exact .bool _
  · refine ⟨.bool (!(b == c)), by simp [guard_bool, binOp, h1], ?_⟩
    have : ((b == c) != (BinOp.neq == BinOp.neq)) = !(b == c) := by cases b <;> cases c <;> rfl
    rw [this]; exact .bool _

theorem part_cell {t : TypeId} {cs : Array Value} {i : Nat} {x : Value} (hg : isAggT P t = some false) (hx : cs[i]? = some x) : (part t cs i).run P w = .ok x w := by
  simp [part, run_isAgg hg, hx]

theorem isBasic_agg {t : TypeId} (hb : isBasic P t = true) : isAggT P t = some false := by
  unfold isBasic at hb
  unfold isAggT
  split at hb <;> simp_all

theorem cellEq_ok {t : TypeId} {d : Nat} {r : Bool} (hb : isBasic P t = true) (hx : VR ρ I w u X) (hy : VR ρ I w u' Y) (e : cellEq X Y = some r) (hk : kindOk (kindT P t) X = true) :
    (Op.equalIn (d + 1) t u u').run P w = .ok r w := by
  have hd : (∃ k, P.underlying t = some (.int k)) ∨ P.underlying t = some .bool ∨ P.underlying t = some .string := by
    unfold isBasic at hb
    split at hb
    · rename_i k hu; exact .inl ⟨k, hu⟩
    · rename_i hu; exact .inr (.inr hu)
    · rename_i hu; exact .inr (.inl hu)
    · cases hb
  unfold cellEq at e
  split at e
  · rw [hx.int_inv, hy.int_inv]
    split at e
    · rename_i hk'
      subst hk'
      cases e
      rcases hd with ⟨k, hu⟩ | hu | hu
      · exact run_equalIn_int (P := P) w d t _ k _ _ hu
      · simp [kindT, hu, kindOk] at hk
      · simp [kindT, hu, kindOk] at hk
    · cases e
  · rw [hx.bool_inv, hy.bool_inv]
    cases e
    rcases hd with ⟨k, hu⟩ | hu | hu
    · simp [kindT, hu, kindOk] at hk
    · exact run_equalIn_bool' (P := P) w d t _ _ hu
    · simp [kindT, hu, kindOk] at hk
  · rw [hx.str_inv, hy.str_inv]
    cases e
    rcases hd with ⟨k, hu⟩ | hu | hu
    · simp [kindT, hu, kindOk] at hk
    · simp [kindT, hu, kindOk] at hk
    · rw [run_equalIn_string (P := P) w d t _ _ hu, bytes_eq]
  · cases e

theorem eqFields_ok {d : Nat} {xs ys : Array Value} : ∀ (fs : List Field) (i : Nat) (as bs : List PV) (r : Bool), flatFrom P i fs = true → cellsEq (fs.map fun f => kindT P f.type) as bs = some r →
    (∀ j (hj : j < as.length), (i + j) < xs.size ∧ VR ρ I w (xs.getD (i + j) undef) as[j]) → (∀ j (hj : j < bs.length), (i + j) < ys.size ∧ VR ρ I w (ys.getD (i + j) undef) bs[j]) →
    (Op.eqFields (d + 1) xs ys fs).run P w = .ok r w
  | [], i, as, bs, r, _, e, _, _ => by
    cases as <;> cases bs <;> simp [cellsEq] at e
    subst e
    simp [Op.eqFields]
  | f :: fs, i, as, bs, r, hf, e, ha, hb => by
    cases as with
    | nil => simp [cellsEq] at e
    | cons A as =>
      cases bs with
      | nil => simp [cellsEq] at e
      | cons B bs =>
        simp only [flatFrom, Bool.and_eq_true, bne_iff_ne, beq_iff_eq] at hf
        obtain ⟨⟨⟨h1, h2⟩, h3⟩, h4⟩ := hf
        simp only [List.map_cons, cellsEq] at e
        split at e
        · rename_i hk
          split at e
          · rename_i r1 r2 e1 e2
            cases e
            obtain ⟨ax, av⟩ := ha 0 (by simp)
            obtain ⟨bx, bv⟩ := hb 0 (by simp)
            have pa : (part f.type xs f.offset).run P w = .ok (xs.getD i undef) w := part_cell (isBasic_agg h3) (by rw [h2]; simp at ax; simp [Array.getD, ax])
            have pb : (part f.type ys f.offset).run P w = .ok (ys.getD i undef) w := part_cell (isBasic_agg h3) (by rw [h2]; simp at bx; simp [Array.getD, bx])
            have pe : (Op.equalIn (d + 1) f.type (xs.getD i undef) (ys.getD i undef)).run P w = .ok r1 w := cellEq_ok (d := d) h3 (by simpa using av) (by simpa using bv) e1 hk
            have ih := eqFields_ok (d := d) fs (i + 1) as bs r2 h4 e2
              (fun j hj => by have := ha (j + 1) (by simp; omega); simpa [Nat.add_assoc, Nat.add_comm 1 j] using this)
              (fun j hj => by have := hb (j + 1) (by simp; omega); simpa [Nat.add_assoc, Nat.add_comm 1 j] using this)
            rw [Op.eqFields]
            simp only [if_pos h1, Sem.run_bind, pa, pb, pe, Result.andThen_ok]
            cases r1
            · simp
            · simpa using ih
          · cases e
        · cases e

theorem eqs_ok {op : BinOp} {t : TypeId} {x y : Operand} {fs : Array Field} {as bs : List PV} {r : Bool} (hop : op = .eql ∨ op = .neq) (ht : P.underlying t = some (.struct fs)) (hfl : flatT P t fs = true)
    (hx : VR ρ I w u (.agg as)) (hy : VR ρ I w u' (.agg bs)) (e : cellsEq (fs.toList.map fun f => kindT P f.type) as bs = some r) :
    (do eqGuard op t x y u u'; binOp op t u u' : Sem Value).run P w = .ok (.bool (r != (op == .neq))) w := by
  cases hx with
  | agg ha hav _ =>
    cases hy with
    | agg hb hbv _ =>
      rename_i C1 _ C2 _
      simp only [flatT, Bool.and_eq_true, Bool.not_eq_true'] at hfl
      obtain ⟨⟨f1, f2⟩, f3⟩ := hfl
      have hft : P.fieldsOf t = fs := by simp [Program.fieldsOf, ht]
      have h1 : (Op.equalIn 10000 t (.agg C1) (.agg C2)).run P w = .ok r w := by
        rw [run_equalIn_struct (P := P) w 9999 t _ _ (by rw [hft]; exact ht) f2, hft]
        exact eqFields_ok (d := 9998) (ρ := ρ) (I := I) fs.toList 0 as bs r f1 e (fun j hj => ⟨by omega, by simpa using hav j hj⟩) (fun j hj => ⟨by omega, by simpa using hbv j hj⟩)
      rcases hop with rfl | rfl
      · simp [run_eqGuard_agg (P := P) w .eql t x y _ _ f3, run_eql_struct, h1]
        try (cases r <;> rfl)
      · simp [run_eqGuard_agg (P := P) w .neq t x y _ _ f3, run_neq_struct, h1]
        try (cases r <;> rfl)
end
end Go.Ev

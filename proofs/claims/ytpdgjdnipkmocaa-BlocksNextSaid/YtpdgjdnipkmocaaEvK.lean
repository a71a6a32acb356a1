/- Each operation of the abstract machine stands for the machine's own: slices of slices, copies, maps, the rest; and all of them together. -/
import Derived.Test.YtpdgjdnipkmocaaEvJ
set_option linter.unusedVariables false
set_option linter.unusedSimpArgs false
namespace Go.Ev
section
variable {P : Program} {ρ : Nat → Option (Nat × Nat)} {I : Nat → Prop} {h : AH} {w : World} {nt : Nat} {a : Act} {s : Fr} {u u' : Value} {v X Y : PV}

theorem slice2_ok {t e : TypeId} {z : Nat} {lo hi : Option Operand} {Lo Hi : Option Opd} (hu : P.underlying t = some (.slice e)) (hz : szT P e = some z) (hlo : opdO lo = some Lo) (hhi : opdO hi = some Hi) (hf : FR ρ I w nt a s)
    (hx : VR ρ I w u X) (ev : evSlice z X (Lo.map (Opd.val s)) (Hi.map (Opd.val s)) none = some v) :
    ∃ r, (Instr.sliceAt t u (lo.map a.eval) (hi.map a.eval) none).run P w = .ok r w ∧ VR ρ I w r v := by
  unfold evSlice at ev
  simp only at ev
  cases X with
  | sl n cs =>
    simp only at ev
    cases e1 : bndO (Hi.map (Opd.val s)) n n with
    | none => simp [e1] at ev
    | some m =>
      simp only [e1] at ev
      cases e2 : bndO (Lo.map (Opd.val s)) 0 m with
      | none => simp [e2] at ev
      | some l =>
        simp only [e2] at ev
        cases ev
        cases hx with
        | sl us hn hA hv ho =>
          rename_i A c
          obtain ⟨b1, b2, b3⟩ := bounds2 (P := P) (isS := true) hlo hhi hf hn e1 e2
          refine ⟨.slice (if c = l then A else A.map (·.add (l * z))) (m - l) (c - l), by simp [Instr.sliceAt, Instr.slice, run_underlying hu, b1, run_sizeOf hz], ?_⟩
          refine .sl (fun j => us (l * z + j)) (by omega) (fun hne => ?_) (fun j hj => ?_) (fun x hx => ho x (List.mem_of_mem_drop (List.mem_of_mem_take hx)))
          · have hne' : cs ≠ [] := by rintro rfl; simp at hne
            obtain ⟨b, o, rfl, hI, hc⟩ := hA hne'
            have hlt : l < m := by
              rcases Nat.lt_or_ge l m with q | q
              · exact q
              · have : m - l = 0 := by omega
                simp [this] at hne
            rw [if_neg (by omega)]
            refine ⟨b, o + l * z, by simp [Addr.add_mid], hI, fun j hj => ?_⟩
            simp only [List.length_take, List.length_drop] at hj
            rw [Nat.add_assoc]
            exact hc _ (by omega)
          · simp only [List.length_take, List.length_drop] at hj
            rw [List.getElem_take, List.getElem_drop]
            exact hv _ _
  | emp =>
    simp only at ev
    cases e1 : bndO (Hi.map (Opd.val s)) 0 0 with
    | none => simp [e1] at ev
    | some m =>
      simp only [e1] at ev
      cases e2 : bndO (Lo.map (Opd.val s)) 0 m with
      | none => simp [e2] at ev
      | some l =>
        simp only [e2] at ev
        cases ev
        cases hx
        rename_i A
        obtain ⟨b1, b2, b3⟩ := bounds2 (P := P) (isS := true) hlo hhi hf (Nat.le_refl 0) e1 e2
        have hm : m = 0 := by omega
        have hl : l = 0 := by omega
        subst hm hl
        exact ⟨_, by simp [Instr.sliceAt, Instr.slice, run_underlying hu, b1, run_sizeOf hz]; rfl, .emp⟩
  | rf z' i o n =>
    simp only at ev
    split at ev
    · rename_i hzz
      subst hzz
      cases e1 : bndO (Hi.map (Opd.val s)) n n with
      | none => simp [e1] at ev
      | some m =>
        simp only [e1] at ev
        cases e2 : bndO (Lo.map (Opd.val s)) 0 m with
        | none => simp [e2] at ev
        | some l =>
          simp only [e2] at ev
          cases ev
          cases hx with
          | rf0 =>
            obtain ⟨b1, b2, b3⟩ := bounds2 (P := P) (isS := true) hlo hhi hf (Nat.le_refl 0) e1 e2
            have hm : m = 0 := by omega
            have hl : l = 0 := by omega
            subst hm hl
            exact ⟨_, by simp [Instr.sliceAt, Instr.slice, run_underlying hu, b1, run_sizeOf hz]; rfl, .rf0⟩
          | rf hρ hn hw hc =>
            rename_i b o' c C T f
            obtain ⟨b1, b2, b3⟩ := bounds2 (P := P) (isS := true) hlo hhi hf hn e1 e2
            by_cases hcl : c = l
            · have h0 : m - l = 0 := by omega
              rw [h0]
              refine ⟨.slice (some ⟨b, o' + o, none⟩) (m - l) (c - l), by simp [Instr.sliceAt, Instr.slice, run_underlying hu, b1, run_sizeOf hz]; simp [hcl], ?_⟩
              rw [h0, show c - l = 0 by omega]
              exact .rf0
            · refine ⟨.slice (some ⟨b, o' + (o + l * z'), none⟩) (m - l) (c - l), by simp [Instr.sliceAt, Instr.slice, run_underlying hu, b1, run_sizeOf hz, hcl, Addr.add_mid, Nat.add_assoc], ?_⟩
              refine .rf hρ (by omega) hw ?_
              have : c * z' = l * z' + (c - l) * z' := by rw [← Nat.add_mul]; congr 1; omega
              omega
    · cases ev
  | _ => simp at ev

/-- Bounds with a third index: all that is wanted is that nothing is left. -/
theorem bounds3 {isS : Bool} {n c l m k : Nat} {lo : Option Operand} {x y : Operand} {Lo : Option Opd} {X Y : Opd} (hlo : opdO lo = some Lo) (hX : opd x = some X) (hY : opd y = some Y) (hf : FR ρ I w nt a s) (hnc : n ≤ c)
    (e0 : bnd (Y.val s) n = some k) (e1 : bnd (X.val s) k = some m) (e2 : bndO (Lo.map (Opd.val s)) 0 m = some l) :
    (Instr.sliceBounds isS n c (lo.map a.eval) (some (a.eval x)) (some (a.eval y))).run P w = .ok (l, m, k) w ∧ l ≤ m ∧ m ≤ k ∧ k ≤ n := by
  have up : ∀ {X : PV} {y y' r : Nat}, bnd X y = some r → y ≤ y' → bnd X y' = some r := by
    intro X y y' r e hy
    cases X with
    | int k i =>
      simp only [bnd] at e ⊢
      split at e
      · rename_i hi'
        rw [if_pos ⟨hi'.1, by omega⟩]
        exact e
      · cases e
    | _ => simp [bnd] at e
  have hk := (bnd_ok (P := P) (code := .sliceB) e0 (opd_vr hY hf)).2
  have hm := (bnd_ok (P := P) (code := .sliceB) e1 (opd_vr hX hf)).2
  have hK : ∀ code, (Instr.sliceBound (a.eval y) c code).run P w = .ok k w := fun code => (bnd_ok (up e0 hnc) (opd_vr hY hf)).1
  have hM : ∀ code, (Instr.sliceBound (a.eval x) k code).run P w = .ok m w := fun code => (bnd_ok e1 (opd_vr hX hf)).1
  have hL : l ≤ m ∧ (lo = none ∧ l = 0 ∨ ∃ z, lo = some z ∧ ∀ code, (Instr.sliceBound (a.eval z) m code).run P w = .ok l w) := by
    cases lo with
    | none =>
      simp [opdO] at hlo
      subst hlo
      simp only [Option.map_none, bndO] at e2
      cases e2
      exact ⟨Nat.zero_le _, .inl ⟨rfl, rfl⟩⟩
    | some z =>
      simp only [opdO, Option.map_eq_some_iff] at hlo
      obtain ⟨Z, hZ, rfl⟩ := hlo
      simp only [Option.map_some, bndO] at e2
      exact ⟨(bnd_ok (P := P) (code := .sliceB) e2 (opd_vr hZ hf)).2, .inr ⟨z, rfl, fun code => (bnd_ok e2 (opd_vr hZ hf)).1⟩⟩
  refine ⟨?_, hL.1, hm, hk⟩
  rcases hL.2 with ⟨rfl, rfl⟩ | ⟨z, rfl, hz⟩ <;> simp [Instr.sliceBounds, *]

theorem slice3_ok {t e : TypeId} {z : Nat} {lo hi : Option Operand} {y : Operand} {Lo Hi : Option Opd} {Y' : Opd} (hu : P.underlying t = some (.slice e)) (hz : szT P e = some z) (hlo : opdO lo = some Lo) (hhi : opdO hi = some Hi) (hy : opd y = some Y') (hf : FR ρ I w nt a s)
    (hx : VR ρ I w u X) (ev : evSlice z X (Lo.map (Opd.val s)) (Hi.map (Opd.val s)) (some (Y'.val s)) = some v) :
    ∃ r, (Instr.sliceAt t u (lo.map a.eval) (hi.map a.eval) (some (a.eval y))).run P w = .ok r w ∧ VR ρ I w r v := by
  have fin : ∀ (A : Option Addr) (n c k m l : Nat) (x : Operand) (Xo : Opd), u = .slice A n c → n ≤ c → hi = some x → opd x = some Xo → Hi = some Xo → bnd (Y'.val s) n = some k → bnd (Xo.val s) k = some m → bndO (Lo.map (Opd.val s)) 0 m = some l → l = k →
      ∃ r, (Instr.sliceAt t u (lo.map a.eval) (hi.map a.eval) (some (a.eval y))).run P w = .ok r w ∧ VR ρ I w r .emp := by
    rintro A n c k m l x Xo rfl hnc rfl hXo rfl e0 e1 e2 rfl
    obtain ⟨b1, b2, b3, b4⟩ := bounds3 (P := P) (isS := true) hlo hXo hy hf hnc e0 e1 e2
    have hm : m = l := by omega
    subst hm
    refine ⟨.slice A 0 0, ?_, .emp⟩
    simp [Instr.sliceAt, Instr.slice, run_underlying hu, b1, run_sizeOf hz]
  have hget : ∀ {k m : Nat}, bndO (Hi.map (Opd.val s)) 0 k = some m → (Hi.map (Opd.val s)).isSome → ∃ x Xo, hi = some x ∧ opd x = some Xo ∧ Hi = some Xo ∧ bnd (Xo.val s) k = some m := by
    intro k m e hs
    cases hi with
    | none => simp [opdO] at hhi; subst hhi; simp at hs
    | some x =>
      simp only [opdO, Option.map_eq_some_iff] at hhi
      obtain ⟨Xo, hXo, rfl⟩ := hhi
      simp only [Option.map_some, bndO] at e
      exact ⟨x, Xo, rfl, hXo, rfl, e⟩
  unfold evSlice at ev
  simp only at ev
  have gen : ∀ n : Nat, (∃ A c, u = .slice A n c ∧ n ≤ c) → (match bnd (Y'.val s) n with
      | some m => match bndO (Hi.map (Opd.val s)) 0 m, Hi.map (Opd.val s) with
        | some h, some _ => match bndO (Lo.map (Opd.val s)) 0 h with
          | some l => if l = m then some PV.emp else none
          | none => none
        | _, _ => none
      | none => none) = some v → ∃ r, (Instr.sliceAt t u (lo.map a.eval) (hi.map a.eval) (some (a.eval y))).run P w = .ok r w ∧ VR ρ I w r v := by
    rintro n ⟨A, c, hu', hnc⟩ ev
    cases e0 : bnd (Y'.val s) n with
    | none => simp [e0] at ev
    | some k =>
      simp only [e0] at ev
      cases e1 : bndO (Hi.map (Opd.val s)) 0 k with
      | none => simp [e1] at ev
      | some m =>
        have e1' := e1
        cases e3 : Hi.map (Opd.val s) with
        | none => rw [e3] at e1; simp only [e3, e1] at ev; cases ev
        | some q =>
          rw [e3] at e1
          simp only [e3, e1] at ev
          cases e2 : bndO (Lo.map (Opd.val s)) 0 m with
          | none => simp [e2] at ev
          | some l =>
            simp only [e2] at ev
            split at ev
            · rename_i hlk
              cases ev
              obtain ⟨x, Xo, h1, h2, h3, h4⟩ := hget e1' (by rw [e3]; rfl)
              exact fin A n c k m l x Xo hu' hnc h1 h2 h3 e0 h4 e2 hlk
            · cases ev
  cases X with
  | sl n cs =>
    cases hx with
    | sl us hn _ _ _ => exact gen n ⟨_, _, rfl, hn⟩ ev
  | rf z' i o n =>
    have : ∃ A c, u = .slice A n c ∧ n ≤ c := by
      cases hx with
      | rf _ hn _ _ => exact ⟨_, _, rfl, hn⟩
      | rf0 => exact ⟨_, _, rfl, Nat.le_refl _⟩
    exact gen n this ev
  | emp =>
    cases hx
    rename_i A
    refine gen 0 ⟨_, _, rfl, Nat.le_refl _⟩ ?_
    simp only at ev
    cases e0 : bnd (Y'.val s) 0 with
    | none => simp [e0] at ev
    | some k =>
      simp only [e0] at ev ⊢
      cases e1 : bndO (Hi.map (Opd.val s)) 0 k with
      | none => simp [e1] at ev
      | some m =>
        have e1' := e1
        cases e3 : Hi.map (Opd.val s) with
        | none => rw [e3] at e1; simp only [e3, e1] at ev; cases ev
        | some q =>
          rw [e3] at e1
          simp only [e3, e1] at ev
          simp only [e1]
          cases e2 : bndO (Lo.map (Opd.val s)) 0 m with
          | none => simp [e2] at ev
          | some l =>
            simp only [e2] at ev
            simp only [e2]
            have hk : k = 0 := by
              have := (bnd_ok (P := P) (code := .sliceB) e0 (opd_vr hy hf)).2
              omega
            obtain ⟨x, Xo, h1, h2, h3, h4⟩ := hget e1' (by rw [e3]; rfl)
            have hm := (bnd_ok (P := P) (code := .sliceB) h4 (opd_vr h2 hf)).2
            have hl : l ≤ m := by
              cases lo with
              | none => simp [opdO] at hlo; subst hlo; simp only [Option.map_none, bndO] at e2; cases e2; omega
              | some zz =>
                simp only [opdO, Option.map_eq_some_iff] at hlo
                obtain ⟨Z, hZ, rfl⟩ := hlo
                simp only [Option.map_some, bndO] at e2
                exact (bnd_ok (P := P) (code := .sliceB) e2 (opd_vr hZ hf)).2
            rw [if_pos (by omega)]
            exact ev
  | _ => simp at ev

theorem slstr_ok {t : TypeId} {lo hi : Option Operand} {Lo Hi : Option Opd} (hu : P.underlying t = some .string) (hlo : opdO lo = some Lo) (hhi : opdO hi = some Hi) (hf : FR ρ I w nt a s)
    (hx : VR ρ I w u X) (ev : evSlstr X (Lo.map (Opd.val s)) (Hi.map (Opd.val s)) = some v) :
    ∃ r, (Instr.sliceAt t u (lo.map a.eval) (hi.map a.eval) none).run P w = .ok r w ∧ VR ρ I w r v := by
  unfold evSlstr at ev
  split at ev
  · rename_i b
    rw [hx.str_inv]
    cases e1 : bndO (Hi.map (Opd.val s)) b.size b.size with
    | none => simp [e1] at ev
    | some m =>
      simp only [e1] at ev
      cases e2 : bndO (Lo.map (Opd.val s)) 0 m with
      | none => simp [e2] at ev
      | some l =>
        simp only [e2] at ev
        cases ev
        obtain ⟨b1, b2, b3⟩ := bounds2 (P := P) (isS := false) hlo hhi hf (Nat.le_refl b.size) e1 e2
        exact ⟨.string (b.extract l m), by simp [Instr.sliceAt, Instr.slice, run_underlying hu, b1], .str _⟩
  · cases ev
end
end Go.Ev

/- Library functions by their contracts: immutable copies of slices. -/
import Derived.Test.YtpdgjdnipkmocaaEvY
set_option linter.unusedVariables false
set_option linter.unusedSimpArgs false
namespace Go.Ev
section
variable {P : Program} {f : Nat} {z b : Nat}

theorem snap_flat {h : AH} {d : Nat} {v : PV} (hf : flat v = true) : snap h (d + 1) v = some v := by
  cases v <;> first | rfl | simp [flat] at hf

theorem snap_flats {h : AH} {d : Nat} : ∀ {vs : List PV}, vs.all flat = true → allO (snap h (d + 1)) vs = some vs
  | [], _ => rfl
  | v :: r, hf => by
    simp only [List.all_cons, Bool.and_eq_true] at hf
    simp only [allO, snap_flat hf.1, snap_flats hf.2]

theorem snap_zero {h : AH} {d : Nat} {x : PV} {ys : List PV} {ρ : Nat → Option (Nat × Nat)} {I : Nat → Prop} {w : World} {u : Value} (e : snap h (d + 1) x = some (.sl 0 ys)) (hv : VR ρ I w u x) : ∃ A c, u = .slice A 0 c := by
  cases x with
  | sl m cs =>
    simp only [snap, Option.map_eq_some_iff] at e
    obtain ⟨_, _, e⟩ := e
    cases e
    cases hv
    exact ⟨_, _, rfl⟩
  | emp => cases hv; exact ⟨_, _, rfl⟩
  | rf z' i o m =>
    simp only [snap] at e
    split at e
    · split at e
      · simp only [Option.map_eq_some_iff] at e
        obtain ⟨_, _, e⟩ := e
        cases e
        cases hv
        · exact ⟨_, _, rfl⟩
        · exact ⟨_, _, rfl⟩
      · cases e
    · cases e
  | pt i o =>
    simp only [snap] at e
    split at e
    · simp only [Option.map_eq_some_iff] at e; obtain ⟨_, _, e⟩ := e; cases e
    · cases e
  | fn f a c =>
    simp only [snap] at e
    split at e
    · cases e
    · cases e
  | pi cs => simp only [snap, Option.map_eq_some_iff] at e; obtain ⟨_, _, e⟩ := e; cases e
  | agg cs => simp only [snap, Option.map_eq_some_iff] at e; obtain ⟨_, _, e⟩ := e; cases e
  | tup cs => simp only [snap, Option.map_eq_some_iff] at e; obtain ⟨_, _, e⟩ := e; cases e
  | _ => simp [snap] at e

theorem noImm_flats {h : AH} {d : Nat} : ∀ {vs : List PV}, vs.all flat = true → vs.all (noImm h (d + 1)) = true
  | [], _ => rfl
  | v :: r, hf => by
    simp only [List.all_cons, Bool.and_eq_true] at hf ⊢
    refine ⟨?_, noImm_flats hf.2⟩
    have := hf.1
    cases v <;> first | rfl | simp [flat] at this

theorem snap_own {d : Nat} {n : Nat} {ys : List PV} (hl : ys.length = (n + 1) * z) (hf : ys.all flat = true) :
    snap (AH.zero.push (.cells ys)) (d + 2) (.rf z AH.zero.nx 0 (n + 1)) = some (.sl (n + 1) ys) ∧ noImm (AH.zero.push (.cells ys)) (d + 2) (.rf z AH.zero.nx 0 (n + 1)) = true := by
  have hrow : (AH.zero.push (.cells ys)).row AH.zero.nx = some ys := rfl
  have hfl : allO (snap (AH.zero.push (.cells ys)) (d + 1)) ys = some ys := snap_flats hf
  have hni : ys.all (noImm (AH.zero.push (.cells ys)) (d + 1)) = true := noImm_flats hf
  obtain ⟨e, he⟩ : ∃ e, e = d + 1 := ⟨_, rfl⟩
  rw [show d + 2 = e + 1 by omega]
  rw [← he] at hfl hni
  constructor
  · simp only [snap, hrow, Nat.zero_add, ← hl, Nat.le_refl, if_true, List.drop_zero, List.take_length, hfl, Option.map_some]
  · simp only [noImm, hrow, ← hl, List.drop_zero, List.take_length, hni]

theorem clone_evI {T : Nat → Option Fun} {h : AH} {x : PV} {n : Nat} {ys : List PV} (hT : T f = some (.code { cloneCode z b with pure := true })) (hz : 0 < z) (hr : roomOk (n + 1) (b + 1) = true) (hl : ys.length = (n + 1) * z) (hf : ys.all flat = true)
    (hsn : snap h snapDepth x = some (.sl (n + 1) ys)) : CE T f [x] h (.sl (n + 1) ys) h := by
  have e2 : src AH.zero z (.sl (n + 1) ys) = some (n + 1, ys) := by simp only [src, if_pos hl]
  have hn := src_notnil hz e2
  refine CE_pure hT rfl (as' := [.sl (n + 1) ys]) (by simp only [allO, hsn]) ?_
  obtain ⟨hsnap, hni⟩ : snap (AH.zero.push (.cells ys)) snapDepth (.rf z AH.zero.nx 0 (n + 1)) = some (.sl (n + 1) ys) ∧ noImm (AH.zero.push (.cells ys)) snapDepth (.rf z AH.zero.nx 0 (n + 1)) = true := by
    rw [show snapDepth = 10 + 2 from rfl]
    exact snap_own hl hf
  have happ : ∀ h0 : AH, evApp h0 z b .emp (.sl (n + 1) ys) = some (.rf z h0.nx 0 (n + 1), h0.push (.cells ys)) := fun h0 => by
    have e3 : src h0 z (.sl (n + 1) ys) = some (n + 1, ys) := by simp only [src, if_pos hl]
    simp only [evApp, e3, if_pos hr]
  refine WC.imp (Q := fun ex s' h1 => ex = .ret ∧ s' 2 = .rf z AH.zero.nx 0 (n + 1) ∧ h1 = AH.zero.push (.cells ys)) ?_ ?_
  · clear hsnap hni hsn
    generalize AH.zero = g at e2
    simp only [cloneCode, WC_skip, WC_exit, WC_ret, WC_reg, WC_seq, WC_cond, WC_block, WO_nil, WO_cons, W1_call, W1_mov, W1_nilchk, W1_pick, W1_alloc, W1_box, W1_boxi, W1_blit, W1_clear, W1_bslice, W1_build, W1_load, W1_store, W1_bin, W1_eqb, W1_eqs, W1_isnil, W1_un, W1_conv, W1_str, W1_mkfn, W1_mkmap, W1_mkslice, W1_slice, W1_slstr, W1_fld, W1_fldv, W1_idx, W1_idxp, W1_idxv, W1_idxs, W1_lkp, W1_upd, W1_ext, W1_len, W1_app, W1_minmax, W1_del, thenQ_nrm, thenQ_exit, thenQ_ret, blockQ_nrm, blockQ_exit, blockQ_ret, condQ_bool, condQ_true, condQ_false, opQ_some, evOp, evOpB, barOk, target, lowOk, wants, Opd.val, Fr.put, keep, initFr, hn]
    simp [fillP, happ, hn, opQ, condQ]
  · rintro ex s' h1 ⟨rfl, h2, rfl⟩
    refine ⟨.inr rfl, _, ?_, hsnap, .inr hni⟩
    show resOf [.t 2] s' _ = _
    simp [resOf, resAll, resAt, h2]

theorem primCloneI_ok {v : Nat} (hvf : rl v = f) (hlt : f < vb) (hcomp : compFn P (fun k => k == f) (fun _ _ => false) f = some { cloneCode z b with pure := true })
    (h0 : ∀ (A : Option Addr) (c : Nat) (w : World), Calls P f #[.slice A 0 c] w fun e w' => RowKit.Below w.heap.size w w' ∧ ∃ A', e = .returned (.slice A' 0 0)) : PrimOk P true v (primCloneI z b) := by
  have ht : TOk P (fun k => k == f) (fun k => if k = f then some (.code { cloneCode z b with pure := true }) else none) := by
    refine ⟨fun k c hk => ?_, fun k p g hk => ?_⟩
    · split at hk
      · rename_i q; subst q; cases hk; exact ⟨_, hcomp⟩
      · cases hk
    · split at hk
      · cases hk
      · cases hk
  have hrl : rl f = f := Nat.mod_eq_of_lt hlt
  refine ⟨by rw [hvf]; exact callable_of hlt hcomp, fun as h r h' e ρ I w us hs hv => ?_, fun as h r h' hw e => ?_, fun as h r h' e => ?_, fun _ as h r h' e => ?_⟩
  · rw [hvf]
    unfold primCloneI at e
    split at e
    · rename_i x
      split at e
      · rename_i ys hsrc
        cases e
        obtain ⟨u, rfl, h2⟩ := VRL_sing hv
        obtain ⟨A, c, rfl⟩ := snap_zero (d := 11) hsrc h2
        refine (h0 A c w).mono fun e w' ⟨hb, A', he⟩ => ?_
        subst he
        obtain ⟨g1, g2⟩ := hs.grow (w' := w') (I' := I) hb.os hb.tape hb.output hb.size hb.block (fun _ q => q) (fun _ q => .inl q) (fun k q => Nat.lt_of_lt_of_le (hs.inI k q) hb.size)
        exact ⟨ρ, I, _, rfl, g2, g1, .sl (fun _ => undef) (Nat.le_refl 0) (fun h => absurd rfl h) (fun j hj => absurd hj (by simp)) (by simp)⟩
      · rename_i n ys hsrc
        split at e
        · rename_i hc
          cases e
          obtain ⟨m, hm⟩ := clone_evI (T := fun k => if k = f then some (.code { cloneCode z b with pure := true }) else none) (f := f) (by simp) hc.1 hc.2.2.1 hc.2.1 hc.2.2.2 hsrc
          have := (callOk ht m f [x] h _ _ hm).2
          rw [hrl] at this
          exact this ρ I w us hs hv
        · cases e
      · cases e
    · cases e
  · unfold primCloneI at e
    split at e
    · split at e
      · cases e; exact hw
      · split at e
        · cases e; exact hw
        · cases e
      · cases e
    · cases e
  · unfold primCloneI at e
    have r0 : KL h h := ⟨rfl, Nat.le_refl _, fun _ _ _ => rfl⟩
    split at e
    · split at e
      · cases e; exact r0
      · split at e
        · cases e; exact r0
        · cases e
      · cases e
    · cases e
  · unfold primCloneI at e ⊢
    split at e
    · split at e
      · rename_i ys hsrc
        cases e
        exact ⟨rfl, fun h2 hl => by simp only [snap_le hl snapDepth _ _ hsrc]⟩
      · rename_i n ys hsrc
        split at e
        · rename_i hc
          cases e
          exact ⟨rfl, fun h2 hl => by simp only [snap_le hl snapDepth _ _ hsrc, if_pos hc]⟩
        · cases e
      · cases e
    · cases e
end
end Go.Ev

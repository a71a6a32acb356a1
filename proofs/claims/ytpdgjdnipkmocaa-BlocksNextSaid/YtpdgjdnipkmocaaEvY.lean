/- Library functions by their contracts: copies of slices. -/
import Derived.Test.YtpdgjdnipkmocaaEvT
import Derived.Test.YtpdgjdnipkmocaaEvU
import Derived.Test.YtpdgjdnipkmocaaEvX
set_option linter.unusedVariables false
set_option linter.unusedSimpArgs false
namespace Go.Ev

def cloneCode (z b : Nat) : CFun := ⟨false, false, (.seq (.reg [⟨(some 2), (.mov (.c .emp)), none⟩]) (.seq (.seq (.reg [⟨(some 3), (.mov (.t 0)), none⟩, ⟨(some 4), (.isnil false 1 (.t 3)), none⟩]) (.cond (.t 4) (.seq (.reg [⟨(some 2), (.mov (.c .emp)), none⟩]) .ret) .skip)) (.seq (.reg [⟨(some 5), (.blit 0 [] []), none⟩, ⟨(some 6), (.mov (.t 0)), none⟩, ⟨(some 7), (.app z b (.t 5) (.t 6)), none⟩, ⟨(some 2), (.mov (.t 7)), none⟩]) .ret))), [(.t 2)]⟩

/-- A copy that is the caller's own. -/
def primCloneO (z b : Nat) (as : List PV) (h : AH) : Option (PV × AH) :=
  match as with
  | [x] => match src h z x with
    | some (0, _) => some (.emp, h)
    | some (n + 1, ys) => if 0 < z ∧ roomOk (n + 1) (b + 1) = true then some (.rf z h.nx 0 (n + 1), h.push (.cells ys)) else none
    | none => none
  | _ => none

def flat : PV → Bool
  | .int _ _ | .bool _ | .str _ => true
  | _ => false

/-- A copy that is immutable. -/
def primCloneI (z b : Nat) (as : List PV) (h : AH) : Option (PV × AH) :=
  match as with
  | [x] => match snap h snapDepth x with
    | some (.sl 0 _) => some (.sl 0 [], h)
    | some (.sl (n + 1) ys) => if 0 < z ∧ ys.length = (n + 1) * z ∧ roomOk (n + 1) (b + 1) = true ∧ ys.all flat = true then some (.sl (n + 1) ys, h) else none
    | _ => none
  | _ => none

section
variable {P : Program} {f : Nat} {z b : Nat}

theorem src_notnil {h : AH} {x : PV} {n : Nat} {ys : List PV} (hz : 0 < z) (e : src h z x = some (n + 1, ys)) : isNilK 1 x = some false := by
  cases x with
  | sl m cs =>
    simp only [src] at e
    split at e
    · rename_i hl
      cases e
      cases ys with
      | nil =>
        exfalso
        have : 0 < (n + 1) * z := Nat.mul_pos (Nat.succ_pos _) hz
        simp at hl
        omega
      | cons a r => rfl
    · cases e
  | rf z' i o m =>
    simp only [src] at e
    split at e
    · split at e
      · cases e; rfl
      · cases e
    · cases e
  | _ => simp [src] at e

theorem clone_ev {T : Nat → Option Fun} {h : AH} {x : PV} {n : Nat} {ys : List PV} (hT : T f = some (.code (cloneCode z b))) (hz : 0 < z) (hr : roomOk (n + 1) (b + 1) = true) (e : src h z x = some (n + 1, ys)) :
    CE T f [x] h (.rf z h.nx 0 (n + 1)) (h.push (.cells ys)) := by
  refine CE_shared hT rfl rfl ?_
  have hn := src_notnil hz e
  simp only [cloneCode, WC_skip, WC_exit, WC_ret, WC_reg, WC_seq, WC_cond, WC_block, WO_nil, WO_cons, W1_call, W1_mov, W1_nilchk, W1_pick, W1_alloc, W1_box, W1_boxi, W1_blit, W1_clear, W1_bslice, W1_build, W1_load, W1_store, W1_bin, W1_eqb, W1_eqs, W1_isnil, W1_un, W1_conv, W1_str, W1_mkfn, W1_mkmap, W1_mkslice, W1_slice, W1_slstr, W1_fld, W1_fldv, W1_idx, W1_idxp, W1_idxv, W1_idxs, W1_lkp, W1_upd, W1_ext, W1_len, W1_app, W1_minmax, W1_del, thenQ_nrm, thenQ_exit, thenQ_ret, blockQ_nrm, blockQ_exit, blockQ_ret, condQ_bool, condQ_true, condQ_false, opQ_some, evOp, evOpB, barOk, target, lowOk, wants, Opd.val, Fr.put, keep, initFr, hn]
  simp [fillP, evApp, e, hn, hr, resOf, resAll, resAt, opQ, condQ]

theorem src_zero {h : AH} {x : PV} {ys : List PV} {ρ : Nat → Option (Nat × Nat)} {I : Nat → Prop} {w : World} {u : Value} (e : src h z x = some (0, ys)) (hv : VR ρ I w u x) : ∃ A c, u = .slice A 0 c := by
  cases x with
  | sl m cs =>
    simp only [src] at e
    split at e
    · cases e
      cases hv
      exact ⟨_, _, rfl⟩
    · cases e
  | emp => cases hv; exact ⟨_, _, rfl⟩
  | rf z' i o m =>
    simp only [src] at e
    split at e
    · split at e
      · cases e
        cases hv
        · exact ⟨_, _, rfl⟩
        · exact ⟨_, _, rfl⟩
      · cases e
    · cases e
  | _ => simp [src] at e

theorem clone_calls {v : Nat} {x : PV} {h : AH} {n : Nat} {ys : List PV} {ρ : Nat → Option (Nat × Nat)} {I : Nat → Prop} {w : World} {us : Array Value} (hvf : rl v = f) (hlt : f < vb)
    (hcomp : compFn P (fun _ => false) (fun _ _ => false) f = some (cloneCode z b)) (hz : 0 < z) (hr : roomOk (n + 1) (b + 1) = true) (e : src h z x = some (n + 1, ys)) (hs : SR ρ I h w) (hv : VRL ρ I w us [x]) :
    Callable P f ∧ Calls P f us w (Post ρ I h w (.rf z h.nx 0 (n + 1)) (h.push (.cells ys))) := by
  have ht : TOk P (fun _ => false) (fun k => if k = f then some (.code (cloneCode z b)) else none) := by
    refine ⟨fun k c hk => ?_, fun k p g hk => ?_⟩
    · split at hk
      · rename_i q; subst q; cases hk; exact ⟨_, hcomp⟩
      · cases hk
    · split at hk
      · cases hk
      · cases hk
  obtain ⟨m, hm⟩ := clone_ev (T := fun k => if k = f then some (.code (cloneCode z b)) else none) (f := f) (by simp) hz hr e
  have hrl : rl f = f := Nat.mod_eq_of_lt hlt
  obtain ⟨k1, k2⟩ := callOk ht m f [x] h _ _ hm
  rw [hrl] at k1 k2
  exact ⟨k1, k2 ρ I w us hs hv⟩

theorem callable_of {pu : Nat → Bool} {ow : Nat → Nat → Bool} {c : CFun} (hlt : f < vb) (hcomp : compFn P pu ow f = some c) : Callable P f := by
  obtain ⟨fn, code, h1, h2, h3, _⟩ := compFn_inv hcomp
  have hrl : rl f = f := Nat.mod_eq_of_lt hlt
  rw [hrl] at h1
  exact ⟨fn, h1, h3, by rw [h2]; rfl⟩

theorem primCloneO_ok {v : Nat} (hvf : rl v = f) (hlt : f < vb) (hcomp : compFn P (fun _ => false) (fun _ _ => false) f = some (cloneCode z b))
    (h0 : ∀ (A : Option Addr) (c : Nat) (w : World), Calls P f #[.slice A 0 c] w fun e w' => RowKit.Below w.heap.size w w' ∧ ∃ A', e = .returned (.slice A' 0 0)) : PrimOk P false v (primCloneO z b) := by
  refine ⟨by rw [hvf]; exact callable_of hlt hcomp, fun as h r h' e ρ I w us hs hv => ?_, fun as h r h' hw e => ?_, fun as h r h' e => ?_, fun q => by cases q⟩
  · rw [hvf]
    unfold primCloneO at e
    split at e
    · rename_i x
      split at e
      · rename_i ys hsrc
        cases e
        obtain ⟨u, rfl, h2⟩ := VRL_sing hv
        obtain ⟨A, c, rfl⟩ := src_zero hsrc h2
        refine (h0 A c w).mono fun e w' ⟨hb, A', he⟩ => ?_
        subst he
        obtain ⟨g1, g2⟩ := hs.grow (w' := w') (I' := I) hb.os hb.tape hb.output hb.size hb.block (fun _ q => q) (fun _ q => .inl q) (fun k q => Nat.lt_of_lt_of_le (hs.inI k q) hb.size)
        exact ⟨ρ, I, _, rfl, g2, g1, .emp⟩
      · rename_i n ys hsrc
        split at e
        · rename_i hc
          cases e
          exact (clone_calls hvf hlt hcomp hc.1 hc.2 hsrc hs hv).2
        · cases e
      · cases e
    · cases e
  · unfold primCloneO at e
    split at e
    · split at e
      · cases e; exact hw
      · split at e
        · cases e; exact hw.push _
        · cases e
      · cases e
    · cases e
  · unfold primCloneO at e
    split at e
    · split at e
      · cases e; exact ⟨rfl, Nat.le_refl _, fun _ _ _ => rfl⟩
      · split at e
        · cases e; exact ⟨rfl, Nat.le_succ _, fun hl i hi => by rw [AH.push_blk, if_neg (by omega)]⟩
        · cases e
      · cases e
    · cases e

theorem primCloneO_ext (as : List PV) (h : AH) (r : PV) (h' : AH) (hw : ∀ i, h.nx ≤ i → h.blk i = none) (e : primCloneO z b as h = some (r, h')) : h.le h' := by
  unfold primCloneO at e
  split at e
  · split at e
    · cases e; exact fun i B q => q
    · split at e
      · cases e; exact push_le h _ (hw _ (Nat.le_refl _))
      · cases e
    · cases e
  · cases e

theorem src_le {h h' : AH} {x : PV} {r : Nat × List PV} (hl : h.le h') (e : src h z x = some r) : src h' z x = some r := by
  cases x with
  | rf z' i o n =>
    simp only [src] at e ⊢
    cases hr : h.row i with
    | none => simp [hr] at e
    | some cs => simp only [hr] at e; rw [row_le hl hr]; exact e
  | _ => exact e

theorem src_mem {h : AH} {x : PV} {n : Nat} {ys : List PV} {ρ : Nat → Option (Nat × Nat)} {I : Nat → Prop} {w : World} (hs : SR ρ I h w) (e : src h z x = some (n, ys)) : ys.length = n * z := by
  cases x with
  | sl m cs =>
    simp only [src] at e
    split at e
    · rename_i hl; cases e; exact hl
    · cases e
  | emp => simp only [src] at e; cases e; simp
  | rf z' i o m =>
    simp only [src] at e
    split at e
    · split at e
      · rename_i cs _ hl; cases e; simp; omega
      · cases e
    · cases e
  | _ => simp [src] at e

end
end Go.Ev

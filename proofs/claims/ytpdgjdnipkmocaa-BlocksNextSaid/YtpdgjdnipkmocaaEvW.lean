/- From the evaluator's answer to a call's contract, and a statement's arguments as the abstract machine's values. -/
import Derived.Test.YtpdgjdnipkmocaaEvT
import Derived.Test.YtpdgjdnipkmocaaEvU
import Derived.Test.YtpdgjdnipkmocaaEvV
import Derived.WideShapes
import Derived.ChangeShapes
set_option linter.unusedVariables false
set_option linter.unusedSimpArgs false
namespace Go.Ev
section
variable {H : Type} {enc : TypeId × Value → H} {P : Program} {W : World} {base : Nat} {pu : Nat → Bool} {T : Nat → Option Fun}

def R0 : Nat → Option (Nat × Nat) := fun _ => none

theorem calls_true (ht : TOk P pu T) {f : Nat} {args : Array Value} {as : List PV} {h' : AH} (hv : VRL R0 (fun b => b < W.heap.size) W args as)
    (he : CE T f as AH.zero (.bool true) h') : Calls P (rl f) args W fun e W' => e = .returned (.bool true) ∧ RowKit.Below W.heap.size W W' := by
  obtain ⟨n, he⟩ := he
  have hs : SR R0 (fun b => b < W.heap.size) AH.zero W :=
    ⟨fun i B hB => (by cases hB), fun i j b o o' hi => absurd rfl hi, fun i b o hi => absurd rfl hi, fun i x hx => (by cases hx), fun b hb => hb⟩
  refine ((callOk ht n f as AH.zero _ h' he).2 R0 _ W args hs hv).mono ?_
  rintro e W' ⟨ρ', I', u, rfl, st, _, hu⟩
  cases hu
  exact ⟨rfl, st.below⟩

theorem arg_struct {t : TypeId} {fs : Array Field} {v : Value} {d : DataW H} {p : List MemPlace} {sp : Nat → Bool} {held : Bool} (hu : P.underlying t = some (.struct fs)) {m : Nat} {s : Sh} (hs : shT P m t = some s)
    (hv : Value.okWide P W .any base t v) (ht : DataW.Trod enc P W 0 sp held t v d p) : ∃ x : s.den, s.ok x ∧ VR R0 (fun b => b < W.heap.size) W v (.agg (s.pv x)) := by
  simp only [Value.okWide, hu] at hv
  obtain ⟨cs, rfl, hsz, _⟩ := hv
  obtain ⟨n, hn⟩ := ht
  obtain ⟨x, hx, hc⟩ := trod_sh (ρ := R0) (I := fun b => b < W.heap.size) (fun b _ hb => hb) n t _ _ hn m s hs
  refine ⟨x, hx, .agg hc.1 (fun j hj => ?_) (s.pv_one x)⟩
  have := hc.2 j hj
  simpa [Value.cells, Array.getD_eq_getD_getElem?, List.getD_eq_getElem?_getD] using this

theorem arg_one {t : TypeId} {v : Value} {d : DataW H} {p : List MemPlace} {sp : Nat → Bool} {held : Bool} {m : Nat} {s : Sh} (hs : shT P m t = some s)
    (hv : v.cells = #[v]) (ht : DataW.Trod enc P W 0 sp held t v d p) : ∃ x : s.den, s.ok x ∧ CR R0 (fun b => b < W.heap.size) W [v] (s.pv x) := by
  obtain ⟨n, hn⟩ := ht
  rw [hv] at hn
  exact trod_sh (ρ := R0) (I := fun b => b < W.heap.size) (fun b _ hb => hb) n t _ _ hn m s hs

theorem CR_head {u : Value} {v : PV} {ρ : Nat → Option (Nat × Nat)} {I : Nat → Prop} (h : CR ρ I W [u] [v]) : VR ρ I W u v := h.2 0 (by simp)

theorem VRL_one {u : Value} {v : PV} {ρ : Nat → Option (Nat × Nat)} {I : Nat → Prop} (h : VR ρ I W u v) : VRL ρ I W #[u] [v] :=
  ⟨rfl, fun j hj => by
    have : j = 0 := by simpa using hj
    subst this
    exact h⟩

theorem VRL_two {u1 u2 : Value} {v1 v2 : PV} {ρ : Nat → Option (Nat × Nat)} {I : Nat → Prop} (h1 : VR ρ I W u1 v1) (h2 : VR ρ I W u2 v2) : VRL ρ I W #[u1, u2] [v1, v2] :=
  ⟨rfl, fun j hj => by
    have : j = 0 ∨ j = 1 := by simp at hj; omega
    rcases this with rfl | rfl
    · exact h1
    · exact h2⟩
end
end Go.Ev

/- Each operation of the abstract machine stands for the machine's own: slices made, cut, appended to, copied. -/
import Derived.Test.YtpdgjdnipkmocaaEvH
import Derived.Deep.AppendSrc
import Derived.Laws.MakeOwn
set_option linter.unusedVariables false
set_option linter.unusedSimpArgs false
namespace Go.Ev
section
variable {P : Program} {ρ : Nat → Option (Nat × Nat)} {I : Nat → Prop} {h : AH} {w : World} {nt : Nat} {a : Act} {s : Fr} {u u' : Value} {v X Y : PV}

theorem szT_info {t : TypeId} {n : Nat} (e : szT P t = some n) : ∃ i, P.info? t = some i ∧ i.size = n := by
  simpa [szT, Option.map_eq_some_iff] using e

theorem roomOk_le {n b : Nat} (e : roomOk n (b + 1) = true) : n * b ≤ 17592186044416 ∧ n ≤ 17592186044416 := by
  unfold roomOk at e
  have := of_decide_eq_true e
  rw [Nat.mul_succ] at this
  omega

/-- The elements of a slice, as the machine reads them. -/
theorem src_ok {z m : Nat} {ys : List PV} {tx e' : TypeId} (hs : SR ρ I h w) (hv : VR ρ I w u X) (e : src h z X = some (m, ys)) (hk : P.underlying tx = some (.slice e')) :
    ∃ A c vs, u = .slice A m c ∧ vs.length = ys.length ∧ ys.length = m * z ∧ Src P z tx u m vs w ∧ (∀ j (hj : j < ys.length), VR ρ I w (vs.getD j undef) ys[j]) ∧ ∀ x ∈ ys, x.one = true := by
  have fin : ∀ (b o c : Nat) (us : Nat → Value), u = .slice (some ⟨b, o, none⟩) m c → ys.length = m * z → (∀ j, j < ys.length → w.cell? ⟨b, o + j, none⟩ = some (us j)) → (∀ j (hj : j < ys.length), VR ρ I w (us j) ys[j]) → (∀ x ∈ ys, x.one = true) →
      ∃ A c vs, u = .slice A m c ∧ vs.length = ys.length ∧ ys.length = m * z ∧ Src P z tx u m vs w ∧ (∀ j (hj : j < ys.length), VR ρ I w (vs.getD j undef) ys[j]) ∧ ∀ x ∈ ys, x.one = true := by
    intro b o c us hu hl hc hr ho
    subst hu
    have hg : ∀ j, j < ys.length → ((List.range ys.length).map us).getD j undef = us j := fun j hj => by simp [List.getD, hj]
    refine ⟨_, c, (List.range ys.length).map us, rfl, by simp, hl, ?_, fun j hj => by rw [hg j hj]; exact hr j hj, ho⟩
    refine Src.ofSlice w hk ⟨b, o, none⟩ m c _ (by simpa using hl) (fun j x hx => ?_) (fun x hx => ?_)
    · simp only [List.getElem?_map, Option.map_eq_some_iff] at hx
      obtain ⟨i, hi, rfl⟩ := hx
      have hlt : j < ys.length := by
        rcases Nat.lt_or_ge j ys.length with q | q
        · exact q
        · rw [List.getElem?_eq_none (by simpa using q)] at hi; cases hi
      rw [List.getElem?_range hlt] at hi
      cases hi
      rw [Addr.add_mid]
      exact hc j hlt
    · obtain ⟨j, hj, rfl⟩ := List.mem_map.1 hx
      have hlt : j < ys.length := by simpa using hj
      exact (hr j hlt).one (ho _ (List.getElem_mem _))
  have nilc : ∀ (A : Option Addr) (c : Nat), u = .slice A 0 c → m = 0 → ys = [] →
      ∃ A c vs, u = .slice A m c ∧ vs.length = ys.length ∧ ys.length = m * z ∧ Src P z tx u m vs w ∧ (∀ j (hj : j < ys.length), VR ρ I w (vs.getD j undef) ys[j]) ∧ ∀ x ∈ ys, x.one = true := by
    intro A c hu hm hy
    subst hu hm hy
    refine ⟨A, c, [], rfl, rfl, by simp, ?_, fun j hj => absurd hj (Nat.not_lt_zero _), fun x hx => by cases hx⟩
    cases A with
    | none => exact Src.ofNil w hk c
    | some ad => exact Src.ofSlice w hk ad 0 c [] (by simp) (fun j x hx => by simp at hx) (fun x hx => by cases hx)
  cases X with
  | sl n cs =>
    simp only [src] at e
    split at e
    · rename_i hl
      cases e
      cases hv with
      | sl us hn hA hv ho =>
        rename_i A c
        by_cases hne : ys = []
        · subst hne
          by_cases hm : m = 0
          · exact nilc A c (by rw [hm]) hm rfl
          · -- elements without cells
            refine ⟨A, c, [], rfl, rfl, hl, ?_, fun j hj => absurd hj (Nat.not_lt_zero _), fun x hx => by cases hx⟩
            have hz : z = 0 := by
              simp only [List.length_nil] at hl
              rcases Nat.mul_eq_zero.1 hl.symm with q | q
              · exact absurd q hm
              · exact q
            subst hz
            cases A with
            | none =>
              exact ⟨.inl ⟨e', hk⟩, fun _ => rfl, by simp [Builtin.firstCells], by simp [Builtin.firstCells], by simp, fun x hx => by cases hx⟩
            | some ad => exact Src.ofSlice w hk ad m c [] (by simp) (fun j x hx => by simp at hx) (fun x hx => by cases hx)
        · obtain ⟨b, o, rfl, _, hc⟩ := hA hne
          exact fin b o c us rfl hl hc hv ho
    · cases e
  | emp =>
    simp only [src] at e
    cases e
    cases hv
    exact nilc _ _ rfl rfl rfl
  | rf z' i o n =>
    simp only [src] at e
    cases hr : h.row i with
    | none => simp [hr] at e
    | some cs =>
      simp only [hr] at e
      split at e
      · rename_i hl
        cases e
        cases hv with
        | rf hρ hn hw hc =>
          rename_i b o' c C T f
          obtain ⟨C2, T2, g1, g2, g3, g4⟩ := own_row hs (row_blk hr) hρ
          refine fin b (o' + o) c (fun j => C2.getD (o' + (o + j)) undef) rfl (by simp; omega) (fun j hj => ?_) (fun j hj => ?_) (fun x hx => g4 x (List.mem_of_mem_drop (List.mem_of_mem_take hx)))
          · have hj' : j < m * z := by simp at hj; omega
            simp only [World.cell?, g1]
            simp [Array.getD, Nat.add_assoc, show o' + (o + j) < C2.size by omega]
          · have hj' : j < m * z := by simp at hj; omega
            have := g3 (o + j) (by omega)
            simpa [List.getElem_take, List.getElem_drop] using this
        | rf0 => exact nilc _ _ rfl rfl (by simp)
      · cases e
  | _ => simp [src] at e

def isSl : PV → Bool
  | .sl _ _ | .emp | .rf _ _ _ _ => true
  | _ => false

theorem slice_cap (hv : VR ρ I w u X) (hX : isSl X = true) : ∃ A n c, u = .slice A n c ∧ n ≤ c := by
  cases hv with
  | sl us hn _ _ _ => exact ⟨_, _, _, rfl, hn⟩
  | emp => exact ⟨_, _, _, rfl, Nat.le_refl _⟩
  | rf h1 hn h2 h3 => exact ⟨_, _, _, rfl, hn⟩
  | rf0 => exact ⟨_, _, _, rfl, Nat.le_refl _⟩
  | _ => cases hX

/-- Nothing is appended: the slice itself. -/
theorem app_zero {t tx ty e : TypeId} {z : Nat} {A : Option Addr} {n c : Nat} {vs : List Value} (hu : P.underlying t = some (.slice e)) (hz : szT P e = some z) (hS : Src P z tx u' 0 vs w) (hnc : n ≤ c) :
    (Builtin.append_ #[t, tx] ty #[.slice A n c, u']).run P w = .ok (.slice A n c) w := by
  have hvs : vs = [] := by have := hS.newsLen; simp at this; exact this
  subst hvs
  obtain ⟨i, hi, hi2⟩ := szT_info hz
  cases A with
  | none => rcases hS.kind with ⟨e', hk⟩ | hk <;> simp [Builtin.append_, run_underlying hu, run_underlying hk, run_sizeOf hz, hS.len, hnc, hS.cells, storeCells]
  | some ad => rcases hS.kind with ⟨e', hk⟩ | hk <;> simp [Builtin.append_, run_underlying hu, run_underlying hk, run_sizeOf hz, hS.len, hnc, hS.cells, storeCells]

theorem AH.ext' {x y : AH} (h1 : x.nx = y.nx) (h0 : x.lo = y.lo) (h2 : ∀ i, x.blk i = y.blk i) : x = y := by
  cases x; cases y; simp at h0 h1 h2; simp [h1, h0]; exact funext h2

/-- Appending where a new row is made. -/
theorem app_grow {t tx ty e : TypeId} {z by_ m n c : Nat} {zv : Value} {A : Option Addr} {vs olds : List Value} {ys os : List PV} {h0 : AH} {ρ0 : Nat → Option (Nat × Nat)} (hs : SR ρ0 I h0 w) (hu : P.underlying t = some (.slice e)) (hz : szT P e = some z) (hb : bytesT P e = some by_)
    (hzv : zeroT P e = some zv) (hzs : zv.cells.size = z) (hS : Src P z tx u' m vs w) (hl : vs.length = ys.length) (hy : ∀ j (hj : j < ys.length), VR ρ0 I w (vs.getD j undef) ys[j]) (ho : ∀ x ∈ ys, x.one = true)
    (hold : (Builtin.firstCells z n (.slice A n c)).run P w.drew = .ok olds.toArray w.drew) (hlo : olds.length = os.length) (hln : os.length = n * z) (hos : ∀ j (hj : j < os.length), VR ρ0 I w (olds.getD j undef) os[j]) (hoo : ∀ x ∈ os, x.one = true)
    (hg : c < n + m) (hroom : roomOk (n + m) (by_ + 1) = true) :
    ∃ u w', (Builtin.append_ #[t, tx] ty #[.slice A n c, u']).run P w = .ok u w' ∧ SR (upd ρ0 h0.nx (w.heap.size, 0)) I (h0.push (.cells (os ++ ys))) w' ∧ St ρ0 I h0 w (upd ρ0 h0.nx (w.heap.size, 0)) I (h0.push (.cells (os ++ ys))) w' ∧
      VR (upd ρ0 h0.nx (w.heap.size, 0)) I w' u (.rf z h0.nx 0 (n + m)) := by
  obtain ⟨i, hi, hi2⟩ := szT_info hz
  have hi3 : i.bytes = by_ := by simp [bytesT, hi] at hb; exact hb
  have hi4 : i.zero = some zv := by simp [zeroT, hi] at hzv; exact hzv
  obtain ⟨r1, r2⟩ := roomOk_le hroom
  have hfit : Builtin.nextslicecap (n + m) c * i.bytes ≤ 281474976710656 := growslice_fits hg (by rw [hi3]; omega)
  have hrun := run_append_grow_src (P := P) w t tx ty e i zv hu hi hi4 A n c olds (by rw [hi2]; exact hold) u' m vs (by rw [hi2]; exact hS) hg (by omega) hfit
  have hge := grownCap_ge w (n + m) c e
  generalize grownCap w (n + m) c e = N at hrun hge
  obtain ⟨s1, s2⟩ := hs.drew
  have hzl : (Builtin.zeroCells zv.cells (N - (n + m))).size = (N - (n + m)) * z := by rw [size_zeroCells, hzs]
  have hys : ys.length = m * z := by rw [← hl, hS.newsLen]
  have hcells : ∀ j (hj : j < (os ++ ys).length), VR ρ0 I w.drew (((olds ++ vs).toArray ++ Builtin.zeroCells zv.cells (N - (n + m))).getD j undef) (os ++ ys)[j] := by
    intro j hj
    have hj2 : j < os.length + ys.length := by simpa using hj
    have e1 : ((olds ++ vs).toArray ++ Builtin.zeroCells zv.cells (N - (n + m))).getD j undef = if j < os.length then olds.getD j undef else vs.getD (j - os.length) undef := by
      simp only [Array.getD_eq_getD_getElem?, Array.getElem?_append, List.size_toArray, List.length_append]
      rw [if_pos (by omega)]
      simp only [List.getElem?_toArray, List.getElem?_append, List.getD_eq_getElem?_getD]
      by_cases q : j < os.length
      · rw [if_pos (by omega), if_pos q]
      · rw [if_neg (by omega), if_neg q, hlo]
    rw [e1, List.getElem_append]
    by_cases q : j < os.length
    · rw [if_pos q]
      simp only [q, dite_true]
      exact (hos j q).step hs s2
    · rw [if_neg q]
      simp only [q, dite_false]
      exact (hy (j - os.length) (by omega)).step hs s2
  have hone : ∀ x ∈ os ++ ys, x.one = true := fun x hx => by
    rcases List.mem_append.1 hx with q | q
    · exact hoo x q
    · exact ho x q
  obtain ⟨g1, g2⟩ := s1.alloc (T := e) (C := (olds ++ vs).toArray ++ Builtin.zeroCells zv.cells (N - (n + m))) (cs := os ++ ys) (by simp; omega) hcells hone
  refine ⟨_, _, hrun, g1, s2.trans g2, ?_⟩
  have hsz : ((olds ++ vs).toArray ++ Builtin.zeroCells zv.cells (N - (n + m))).size = N * z := by
    simp only [Array.size_append, List.size_toArray, List.length_append, hzl, hlo, hln, hl, hys]
    rw [← Nat.add_mul, ← Nat.add_mul]
    congr 1
    omega
  have : VR (upd ρ0 h0.nx (w.heap.size, 0)) I (w.drew.alloc (.cells ((olds ++ vs).toArray ++ Builtin.zeroCells zv.cells (N - (n + m))) e)) (.slice (some ⟨w.heap.size, 0 + 0, none⟩) (n + m) N) (.rf z h0.nx 0 (n + m)) :=
    .rf (by simp [upd]) hge (heap_alloc_new w.drew _) (by rw [hsz]; omega)
  simpa using this
end
end Go.Ev

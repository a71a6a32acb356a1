/- Each operation of the abstract machine stands for the machine's own: append, copy, clear, make, maps. -/
import Derived.Test.YtpdgjdnipkmocaaEvI
set_option linter.unusedVariables false
set_option linter.unusedSimpArgs false
namespace Go.Ev
section
variable {P : Program} {ρ : Nat → Option (Nat × Nat)} {I : Nat → Prop} {h : AH} {w : World} {nt : Nat} {a : Act} {s : Fr} {u u' : Value} {v X Y : PV}

theorem old_cells {z i o n b o' c : Nat} {cs : List PV} (hs : SR ρ I h w) (hb : h.blk i = some (.cells cs)) (hi : ρ i = some (b, o')) (hle : o + n * z ≤ cs.length) :
    ∃ olds : List Value, (Builtin.firstCells z n (.slice (some ⟨b, o' + o, none⟩) n c)).run P w.drew = .ok olds.toArray w.drew ∧ olds.length = ((cs.drop o).take (n * z)).length ∧
      (∀ j (hj : j < ((cs.drop o).take (n * z)).length), VR ρ I w (olds.getD j undef) ((cs.drop o).take (n * z))[j]) ∧ ∀ x ∈ (cs.drop o).take (n * z), x.one = true := by
  obtain ⟨C2, T2, g1, g2, g3, g4⟩ := own_row hs hb hi
  have hlen : ((cs.drop o).take (n * z)).length = n * z := by simp; omega
  refine ⟨(List.range (n * z)).map fun j => C2.getD (o' + (o + j)) undef, ?_, by rw [hlen]; simp, fun j hj => ?_, fun x hx => g4 x (List.mem_of_mem_drop (List.mem_of_mem_take hx))⟩
  · refine run_firstCells_some w.drew z n ⟨b, o' + o, none⟩ n c _ (by simp) (fun j x hx => ?_)
    simp only [List.getElem?_map, Option.map_eq_some_iff] at hx
    obtain ⟨k, hk, rfl⟩ := hx
    have hlt : j < n * z := by
      rcases Nat.lt_or_ge j (n * z) with q | q
      · exact q
      · rw [List.getElem?_eq_none (by simpa using q)] at hk; cases hk
    rw [List.getElem?_range hlt] at hk
    cases hk
    rw [Addr.add_mid, World.cell?_drew]
    simp only [World.cell?, g1]
    simp [Array.getD, Nat.add_assoc, show o' + (o + j) < C2.size by omega]
  · have hj' : j < n * z := by omega
    have := g3 (o + j) (by omega)
    have e1 : ((List.range (n * z)).map fun j => C2.getD (o' + (o + j)) undef).getD j undef = C2.getD (o' + (o + j)) undef := by simp [List.getD, hj']
    rw [e1, List.getElem_take, List.getElem_drop]
    exact this

theorem app_ok {t tx ty e e' : TypeId} {z by_ : Nat} {zv : Value} {h' : AH} (hs : SR ρ I h w) (hu : P.underlying t = some (.slice e)) (hk : P.underlying tx = some (.slice e')) (hz : szT P e = some z) (hb : bytesT P e = some by_)
    (hzv : zeroT P e = some zv) (hzs : zv.cells.size = z) (hx : VR ρ I w u X) (hy : VR ρ I w u' Y)
    (ev : evApp h z by_ X Y = some (v, h')) :
    ∃ r w' ρ' I', (Builtin.append_ #[t, tx] ty #[u, u']).run P w = .ok r w' ∧ St ρ I h w ρ' I' h' w' ∧ SR ρ' I' h' w' ∧ VR ρ' I' w' r v := by
  unfold evApp at ev
  cases hsrc : src h z Y with
  | none => simp [hsrc] at ev
  | some p =>
    obtain ⟨m, ys⟩ := p
    obtain ⟨A', c', vs, rfl, hl, hlm, hS, hvs, ho⟩ := src_ok hs hy hsrc hk
    simp only [hsrc] at ev
    cases m with
    | zero =>
      have hX : isSl X = true ∧ v = X ∧ h' = h := by
        cases X <;> simp at ev <;> exact ⟨rfl, ev.1.symm, ev.2.symm⟩
      obtain ⟨h1, rfl, rfl⟩ := hX
      obtain ⟨A, n, c, rfl, hnc⟩ := slice_cap hx h1
      exact ⟨_, w, ρ, I, app_zero hu hz hS hnc, .refl, hs, hx⟩
    | succ m =>
      simp only at ev
      have grow0 : ∀ (h0 : AH) (A : Option Addr), SR ρ I h0 w → St ρ I h w ρ I h0 w → roomOk (m + 1) (by_ + 1) = true → v = .rf z h0.nx 0 (m + 1) → h' = h0.push (.cells ys) →
          ∃ r w' ρ' I', (Builtin.append_ #[t, tx] ty #[.slice A 0 0, .slice A' (m + 1) c']).run P w = .ok r w' ∧ St ρ I h w ρ' I' h' w' ∧ SR ρ' I' h' w' ∧ VR ρ' I' w' r v := by
        intro h0 A hs0 st0 hroom hv hh
        subst hv hh
        have hold : (Builtin.firstCells z 0 (.slice A 0 0)).run P w.drew = .ok ([] : List Value).toArray w.drew := by
          cases A with
          | none => simp [Builtin.firstCells]
          | some ad => exact run_firstCells_some w.drew z 0 ad 0 0 [] (by simp) (fun j x hx => by simp at hx)
        obtain ⟨r, w', k1, k2, k3, k4⟩ := app_grow (P := P) (tx := tx) (ty := ty) (A := A) (n := 0) (c := 0) (os := []) hs0 hu hz hb hzv hzs hS hl hvs ho hold rfl (by simp) (fun j hj => absurd hj (Nat.not_lt_zero _)) (fun x hx => by cases hx) (by omega) (by simpa using hroom)
        simp only [List.nil_append, Nat.zero_add] at k2 k3 k4
        exact ⟨r, w', _, _, k1, st0.trans k3, k2, k4⟩
      cases X with
      | emp =>
        simp only at ev
        split at ev
        · rename_i hroom
          cases ev
          cases hx
          exact grow0 h _ hs .refl hroom rfl rfl
        · cases ev
      | rf z' i o n =>
        simp only at ev
        cases hr : h.row i with
        | none => simp [hr] at ev
        | some cs =>
          simp only [hr] at ev
          split at ev
          · rename_i hc
            obtain ⟨rfl, hle, hroom⟩ := hc
            cases ev
            have hbk := row_blk hr
            cases hx with
            | rf0 =>
              obtain ⟨d1, d2⟩ := hs.gone i
              have := grow0 (h.del i) ‹Option Addr› d1 d2 (by simpa using hroom) (by rw [Nat.zero_add]; rfl) (by simp)
              simpa using this
            | rf hρ hn hw hcap =>
              rename_i b o' c C T f
              obtain ⟨C2, T2, g1, g2, g3, g4⟩ := own_row hs hbk hρ
              rw [hw] at g1
              cases g1
              obtain ⟨q, hq, hq2⟩ := szT_info hz
              by_cases hfit : n + (m + 1) ≤ c
              · -- in place
                have hvl : vs.length = (m + 1) * z' := hS.newsLen
                have hmul : (n + (m + 1)) * z' ≤ c * z' := Nat.mul_le_mul_right _ hfit
                rw [Nat.add_mul] at hmul
                obtain ⟨w', e1, e2, e3⟩ := write_ok (P := P) (k := o + n * z') (ds := ys) (vs := vs) hs hbk hρ hw hle hl (by omega) hvs ho
                obtain ⟨m1, m2⟩ := e2.moved (i := i) (o := o) (n := n * z' + ys.length) (cs := splice cs (o + n * z') ys) (by rw [AH.set_blk, if_pos rfl]) hρ (by simp [splice]; omega)
                have heq : ((h.set i (.cells (splice cs (o + n * z') ys))).del i).push (.cells (((splice cs (o + n * z') ys).drop o).take (n * z' + ys.length))) = (h.del i).push (.cells ((cs.drop o).take (n * z') ++ ys)) := by
                  have hcut : ((splice cs (o + n * z') ys).drop o).take (n * z' + ys.length) = (cs.drop o).take (n * z') ++ ys := by
                    simp only [splice]
                    rw [List.append_assoc, List.drop_append_of_le_length (by simp; omega), List.drop_take]
                    rw [show o + n * z' - o = n * z' by omega, ← List.append_assoc]
                    rw [List.take_append_of_le_length (by simp; omega)]
                    rw [List.take_of_length_le (by simp; omega)]
                  rw [hcut]
                  apply AH.ext'
                  · rfl
                  · rfl
                  · intro j
                    simp only [AH.push_blk, AH.del_blk, AH.set_blk]
                    have e1 : ((h.set i (.cells (splice cs (o + n * z') ys))).del i).nx = h.nx := rfl
                    have e2 : (h.del i).nx = h.nx := rfl
                    rw [e1, e2]
                    by_cases q1 : j = h.nx
                    · rw [if_pos q1, if_pos q1]
                    · rw [if_neg q1, if_neg q1]
                      by_cases q2 : j = i
                      · rw [if_pos q2, if_pos q2]
                      · rw [if_neg q2, if_neg q2, if_neg q2]
                rw [heq] at m1 m2
                refine ⟨.slice (some ⟨b, o' + o, none⟩) (n + (m + 1)) c, w', _, _, ?_, e3.trans m2, m1, ?_⟩
                · rcases hS.kind with ⟨e'', hk'⟩ | hk' <;> simp [Builtin.append_, run_underlying hu, run_underlying hk', run_sizeOf hz, hS.len, hfit, hS.cells, Addr.add_mid, Nat.add_assoc, e1]
                · obtain ⟨C3, r1, r2⟩ := e3.row b C T (0, 0) hw
                  have : VR (upd ρ (h.set i (.cells (splice cs (o + n * z') ys))).nx (b, o' + o)) I w' (.slice (some ⟨b, o' + o + 0, none⟩) (n + (m + 1)) c) (.rf z' h.nx 0 (n + (m + 1))) :=
                    .rf (by show upd ρ h.nx (b, o' + o) h.nx = _; simp [upd]) hfit r1 (by rw [r2]; omega)
                  simpa using this
              · obtain ⟨olds, k1, k2, k3, k4⟩ := old_cells (P := P) (c := c) hs hbk hρ hle
                obtain ⟨d1, d2⟩ := hs.gone i
                obtain ⟨r, w', j1, j2, j3, j4⟩ := app_grow (P := P) (tx := tx) (ty := ty) (n := n) (c := c) (h0 := h.del i) d1 hu hz hb hzv hzs hS hl hvs ho k1 k2 (by simp; omega) k3 k4 (by omega) hroom
                exact ⟨r, w', _, _, j1, d2.trans j3, j2, j4⟩
          · cases ev
      | _ => simp at ev

theorem mkslice_ok {t e : TypeId} {z by_ : Nat} {zs : List PV} {l c : Int} (hs : SR ρ I h w) (hu : P.underlying t = some (.slice e)) (hz : szT P e = some z) (hb : bytesT P e = some by_) (hzc : zeroCells P e = some zs) (hl : zs.length = z ∧ 0 < z)
    (h0 : 0 ≤ l ∧ l ≤ c ∧ roomOk c.toNat (by_ + 1) = true) :
    ∃ r w' ρ' I', (Instr.makeSlice t (.int .i64 l) (.int .i64 c)).run P w = .ok r w' ∧ St ρ I h w ρ' I' (h.push (.cells (List.replicate l.toNat zs).flatten)) w' ∧ SR ρ' I' (h.push (.cells (List.replicate l.toNat zs).flatten)) w' ∧ VR ρ' I' w' r (.rf z h.nx 0 l.toNat) := by
  obtain ⟨zv, z1, z2⟩ := zeroCells_inv hzc
  obtain ⟨i, hi, hi2⟩ := szT_info hz
  have hi3 : i.bytes = by_ := by simp [bytesT, hi] at hb; exact hb
  have hi4 : i.zero = some zv := by simp [zeroT, hi] at z1; exact z1
  obtain ⟨h1, h2, h3⟩ := h0
  obtain ⟨r1, r2⟩ := roomOk_le h3
  have hbytes : (i.bytes : Int) * c ≤ 281474976710656 := by
    rw [hi3]
    have : (by_ : Int) * c = ((c.toNat * by_ : Nat) : Int) := by
      rw [Int.natCast_mul, Int.toNat_of_nonneg (by omega), Int.mul_comm]
    rw [this]
    omega
  have hrun := run_make (P := P) w t e i zv hu hi hi4 .i64 .i64 l c h1 h2 hbytes (by omega)
  have hzv : VRA ρ I w zv.cells zs := zero_vra z2
  have hzlen : zs.length = z := hl.1
  have hr := reps_vra (n := c.toNat) hzv (by omega)
  have hpos : 0 < zs.length := by omega
  have hget : ∀ j (hj : j < ((List.replicate l.toNat zs).flatten).length), VR ρ I w ((madeCells zv.cells (c.toNat * i.size)).getD j undef) ((List.replicate l.toNat zs).flatten)[j] := by
    intro j hj
    have hj1 : j < l.toNat * zs.length := by simpa using hj
    have hle : l.toNat * zs.length ≤ c.toNat * zs.length := Nat.mul_le_mul_right _ (by omega)
    have hj2 : j < ((List.replicate c.toNat zs).flatten).length := by simp; omega
    have e1 := flatten_get zs hpos l.toNat j
    have e2 := flatten_get zs hpos c.toNat j
    rw [if_pos hj1, List.getElem?_eq_getElem hj] at e1
    rw [if_pos (by omega), List.getElem?_eq_getElem hj2] at e2
    have e3 : ((List.replicate l.toNat zs).flatten)[j] = ((List.replicate c.toNat zs).flatten)[j] := Option.some.inj (e1.trans e2.symm)
    rw [e3]
    have := hr.2.1 j hj2
    rw [hzlen] at this
    rw [hi2]
    exact this
  obtain ⟨g1, g2⟩ := hs.alloc (T := e) (C := madeCells zv.cells (c.toNat * i.size)) (cs := (List.replicate l.toNat zs).flatten) (by
    rw [size_madeCells, hi2]
    simp only [List.length_flatten, List.map_replicate, List.sum_replicate_nat, hzlen]
    exact Nat.mul_le_mul_right _ (by omega)) hget (fun x hx => by
      simp only [List.mem_flatten, List.mem_replicate] at hx
      obtain ⟨l', ⟨_, rfl⟩, hx⟩ := hx
      exact hzv.2.2 x hx)
  refine ⟨_, _, _, _, hrun, g2, g1, ?_⟩
  have : VR (upd ρ h.nx (w.heap.size, 0)) I (w.alloc (.cells (madeCells zv.cells (c.toNat * i.size)) e)) (.slice (some ⟨w.heap.size, 0 + 0, none⟩) l.toNat c.toNat) (.rf z h.nx 0 l.toNat) :=
    .rf (by simp [upd]) (by omega) (heap_alloc_new w _) (by rw [size_madeCells, hi2]; omega)
  simpa using this

end
end Go.Ev

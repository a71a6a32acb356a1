/- The copy of a procedure without its blocks. -/
import Derived.Test.YtpdgjdnipkmocaaG1
set_option linter.unusedVariables false
set_option linter.unusedSimpArgs false
namespace Go.Proofs.Ytpdgjdnipkmocaa
open Go.Ev

section
variable {h : AH} {d : Option Nat} {r : List COper} {κ : List KF} {s : Fr} {Q : Fr → AH → Prop} {S : Nat → Prop}

/-- The cells of a procedure whose parts lie elsewhere. -/
def pcell (p : LProc) (a b c e : PV) : List PV := [.str p.name, a, .int .i64 p.result, b, .str p.sig.base, c, .str p.sig.rest, e, .bool p.extern]

/-- The limits of what is copied of a procedure beside its blocks. -/
def FitS (p : LProc) : Prop := p.params.length ≤ 2000000 ∧ p.sig.params.length ≤ 2000000 ∧ (∀ l ∈ p.sig.params, l.length ≤ 2000000) ∧ p.sig.result.length ≤ 2000000

theorem Rep.one {m : Nat} {u : PV} {n : Nat} {us : List PV} (r : Rep S h (m + 1) u (.sl n us)) : u.one = true := by
  obtain ⟨z, cs, e1, _⟩ := r
  cases u <;> first | rfl | simp [src] at e1

theorem proc_c (p : LProc) (hp : FitS p) {m : Nat} {v1 v3 v5 v7 : PV} (hm : m + 4 ≤ snapDepth) (r1 : Rep S h (m + 4) v1 (sl p.params)) (r3 : Rep S h (m + 4) v3 (sl p.sig.params)) (r5 : Rep S h (m + 4) v5 (sl p.sig.result)) (o7 : v7.one = true) (hlw : h.lo ≤ h.nx)
    (next : ∀ w h', Acc h' w 1 (p.sig.params.map Enc.c).flatten p.sig.params.length → New h w → Kept h h' → WR T r κ (Fr.put s d (.agg (pcell p (sl p.params) w (sl p.sig.result) .emp))) h' Q) :
    callK T 100045 [.agg (pcell p v1 v3 v5 v7)] h d r κ s Q := by
  refine callK_bar tok (c := c100045) rfl rfl rfl hlw ?_
  obtain ⟨l1, l2, l3, l4⟩ := hp
  simp [c100045, pcell, Rep.one r1, Rep.one r3, Rep.one r5, o7]
  have b0 : Blw h ((h.bar.push (Blk.cells (pcell p v1 v3 v5 v7))).push (Blk.cells [.str ⟨#[]⟩, .emp, .int .i64 0, .emp, .str ⟨#[]⟩, .emp, .str ⟨#[]⟩, .emp, .bool false])) := .push (.push (.bar h) _) _
  rw [show [PV.str p.name, v1, PV.int .i64 p.result, v3, PV.str p.sig.base, v5, PV.str p.sig.rest, v7, PV.bool p.extern] = pcell p v1 v3 v5 v7 from rfl]
  rw [primCloneI_eq (z := 2) ((r1.blw b0).deep hm).snap rfl (fun x => rfl) (room (by omega))]
  simp [pcell]
  obtain ⟨c3, s3, cl3, q3⟩ := r3.src
  have b1 : Blw h ((h.bar.push (Blk.cells (pcell p (sl p.params) v3 v5 v7))).push (Blk.cells [.str ⟨#[]⟩, .emp, .int .i64 0, .emp, .str ⟨#[]⟩, .emp, .str ⟨#[]⟩, .emp, .bool false])) := .push (.push (.bar h) _) _
  refine opH_cloneO ((r3.src_blw b1 1).trans s3) cl3 (by decide) (by simp) (room (by omega)) (fun w h1 ha1 hm1 => ?_)
  have g1 := hm1.grow
  simp at g1
  have ea : h1.row h.nx = some (pcell p (sl p.params) v3 v5 v7) := by rw [hm1.row (by simp) (by simp)]; simp [pcell]
  have eb : h1.row (h.nx + 1) = some [.str ⟨#[]⟩, .emp, .int .i64 0, .emp, .str ⟨#[]⟩, .emp, .str ⟨#[]⟩, .emp, .bool false] := by rw [hm1.row (by simp) (by simp)]; simp
  have n1a := hm1.ne (i := h.nx) (by simp) (by simp)
  have n1b := hm1.ne (i := h.nx + 1) (by simp) (by simp)
  have b2 : Blw h h1 := b1.mv hm1 (fun _ _ _ _ e => by cases e)
  have hlo1 : h1.lo ≤ h.nx := by omega
  have wnew : ∀ z i o n, w = .rf z i o n → h.nx + 1 + 1 ≤ i := by
    intro z i o n e
    rcases hm1.2 with rfl | rfl | ⟨_, _, _, _, rfl, hi⟩
    · cases e
    · cases e
    · cases e; simpa using hi
  simp [ea, pcell, hlo1, ha1.one]
  have hl4 : evLen (h1.set h.nx (.cells (pcell p (sl p.params) w v5 v7))) 1 w = some (.int .i64 p.sig.params.length) := (ha1.set _ n1a).len
  simp only [pcell] at hl4
  rw [hl4]
  simp
  refine WK_range tgrow (fun k s' h' => h'.row h.nx = some (pcell p (sl p.params) w v5 v7) ∧ h'.row (h.nx + 1) = some [.str ⟨#[]⟩, .emp, .int .i64 0, .emp, .str ⟨#[]⟩, .emp, .str ⟨#[]⟩, .emp, .bool false] ∧ Acc h' w 1 (((p.sig.params.take k).map Enc.c).flatten ++ c3.drop (k * 1)) p.sig.params.length ∧ Blw h h') p.sig.params.length w100045_0 rfl (by decide) (by simp) (by simp) (by omega) (by decide) (fun _ _ _ _ j _ => j) ?_ ?_ ?_
  · refine ⟨by simp [pcell], by simp [eb], by simpa using ha1.set _ n1a, b2.set (Nat.le_refl _) _⟩
  · rintro k s' h' hk ⟨ja, jb, jc, jd⟩ hi hs hg
    have f1 : s' 1 = .pt h.nx 0 := (hs 1 (by decide)).trans (by simp)
    obtain ⟨hlen, ⟨_, h0⟩ | ⟨ir, rfl, hr, hir, hlo⟩⟩ := jc
    · omega
    obtain ⟨ch, rch, ech, lch⟩ := q3.chunk hk
    simp only [c_sl, RepL_cons, RepL_nil] at rch
    obtain ⟨pv, _, rfl, rpv, rfl⟩ := rch
    have hz : Enc.z (List ByteArray) = 1 := rfl
    rw [hz] at ech
    have hk4 : (((p.sig.params.take k).map Enc.c).flatten).length = k := by rw [flat_take_len p.sig.params k (by omega), hz]; omega
    have hrow : h'.row ir = some (((p.sig.params.take k).map Enc.c).flatten ++ [pv] ++ c3.drop ((k + 1) * 1)) := by rw [hr, ech, List.append_assoc]
    have hcell : (((p.sig.params.take k).map Enc.c).flatten ++ [pv] ++ c3.drop ((k + 1) * 1))[k]? = some pv := by
      rw [List.append_assoc, List.getElem?_append_right (by omega), hk4]; simp
    have hlt : k < (((p.sig.params.take k).map Enc.c).flatten ++ [pv] ++ c3.drop ((k + 1) * 1)).length := by
      rw [List.append_assoc, List.length_append, List.length_append, hk4]; simp; omega
    have hset : (((p.sig.params.take k).map Enc.c).flatten ++ [pv] ++ c3.drop ((k + 1) * 1)).set k (sl p.sig.params[k]) = ((p.sig.params.take (k + 1)).map Enc.c).flatten ++ c3.drop ((k + 1) * 1) := by
      rw [flat_take_succ _ _ hk, List.append_assoc, List.set_append_right _ _ (by omega), hk4]
      simp
    generalize ((p.sig.params.take k).map Enc.c).flatten ++ [pv] ++ c3.drop ((k + 1) * 1) = X at hrow hcell hlt hset
    generalize hY : ((p.sig.params.take (k + 1)).map Enc.c).flatten ++ c3.drop ((k + 1) * 1) = Y at hset
    have hrv := wnew _ _ _ _ rfl
    have hpp := l3 _ (List.getElem_mem hk)
    have rp : Rep S h' (m + 3) pv (sl p.sig.params[k]) := rpv.blw jd
    simp [hi, f1, ja, pcell, evIdx_rf hk, hrow, hcell]
    rw [primCloneI_eq (z := 1) (rp.deep (by omega)).snap rfl flat_str (room (by omega))]
    have hlo' : h'.lo ≤ ir := by omega
    simp [ja, pcell, evIdx_rf hk, hrow, hlo', hlt, hset, hi]
    have hne : ¬ h.nx = ir := by omega
    have hne2 : ¬ h.nx + 1 = ir := by omega
    simp [hne, hne2, ja, jb, pcell]
    refine ⟨⟨?_, .inr ⟨ir, rfl, by simp, by simpa using hir, by simpa using hlo⟩⟩, jd.set (by omega) _⟩
    have hcl := cl3
    rw [← hY]
    rw [hz] at hcl
    rw [List.length_append, flat_take_len _ _ (by omega), List.length_drop, hcl, hz]
    omega
  · rintro s' h' ⟨ja, jb, jc, jd⟩ hs hg
    have hz : Enc.z (List ByteArray) = 1 := rfl
    rw [List.take_length, List.drop_of_length_le (by rw [cl3, hz]; omega), List.append_nil] at jc
    have f1 : s' 1 = .pt h.nx 0 := (hs 1 (by decide)).trans (by simp)
    have f2 : s' 2 = .pt (h.nx + 1) 0 := (hs 2 (by decide)).trans (by simp)
    have glo := hg.eq
    have gle := hg.le
    simp at glo gle
    simp [f1, ja, pcell]
    rw [primCloneI_eq (z := 1) ((r5.blw jd).deep hm).snap rfl flat_str (room (by omega))]
    have hlo1' : h'.lo ≤ h.nx := by omega
    have hlo2 : h'.lo ≤ h.nx + 1 := by omega
    simp [f1, f2, ja, jb, pcell, hlo1', hlo2]
    intro q1 q2
    refine next w _ (Acc.unbar ((jc.set _ n1a).set _ n1b) q1 hlw) (fun z i o n e => by have := wnew _ _ _ _ e; omega) q2
end
end Go.Proofs.Ytpdgjdnipkmocaa

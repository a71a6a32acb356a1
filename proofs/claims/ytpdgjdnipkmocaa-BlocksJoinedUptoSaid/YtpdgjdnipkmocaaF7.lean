/- The program's visits: 'preorder', 'all'. -/
import Derived.Test.YtpdgjdnipkmocaaF6
import Derived.Test.YtpdgjdnipkmocaaEwE
set_option linter.unusedVariables false
set_option linter.unusedSimpArgs false
namespace Go.Proofs.Ytpdgjdnipkmocaa
open Go.Ev

/-- The memory of a visit: the set of the met, the list, the function itself. -/
structure VI (p : LProc) (im io iv m : Nat) (l : List Int) (h : AH) : Prop where
  rm : h.row im = some [.mp m]
  rv : h.row iv = some [.fn 59 [] [.pt im 0, .pt io 0, .pi (Enc.c p), .pt iv 0]]
  bm : h.blk m = some (mpSet l)
  ro : ∃ v, h.row io = some [v] ∧ Acc h v 1 (l.map Enc.c).flatten l.length ∧ (∀ z o n, v ≠ .rf z im o n) ∧ (∀ z o n, v ≠ .rf z io o n) ∧ (∀ z o n, v ≠ .rf z iv o n) ∧ (∀ z o n, v ≠ .rf z m o n)
  ne : im ≠ io ∧ im ≠ iv ∧ im ≠ m ∧ io ≠ iv ∧ io ≠ m ∧ iv ≠ m
  lt : im < h.nx ∧ io < h.nx ∧ iv < h.nx ∧ m < h.nx
  lo : h.lo ≤ im ∧ h.lo ≤ io ∧ h.lo ≤ iv ∧ h.lo ≤ m

theorem visit_c (p : LProc) (hp : FitP p) (hin : In p) (im io iv m : Nat) : ∀ (n : Nat) (l : List Int) (a : Int) {h : AH} {d : Option Nat} {r : List COper} {κ : List KF} {s : Fr} {Q : Fr → AH → Prop},
    Nums p.blocks.length l → 0 ≤ a → a < (p.blocks.length : Int) → p.blocks.length + 1 ≤ n + l.length → VI p im io iv m l h →
    (∀ v h', VI p im io iv m (visit (succ p) n l a) h' → WR T r κ (Fr.put s d v) h' Q) →
    callK T 59 [.int .i64 a, .pt im 0, .pt io 0, .pi [PV.str p.name, sl p.params, PV.int .i64 p.result, sl p.sig.params, PV.str p.sig.base, sl p.sig.result, PV.str p.sig.rest, sl p.blocks, PV.bool p.extern], .pt iv 0] h d r κ s Q
  | 0, l, a, h, d, r, κ, s, Q, hl, h0, h1, hn, ha, next => by have := hl.length; omega
  | n + 1, l, a, h, d, r, κ, s, Q, hl, h0, h1, hn, hv, next => by
    have hlen := hl.length
    have hp1 := hp.1
    have hb : a.toNat < p.blocks.length := by omega
    have hsucc : succ p a = Go.Proofs.Ytpdgjdnipkmocaa.next p.blocks[a.toNat] := by simp [succ, hb]
    have hsl := jump_len hp a
    have hbds := hin a h0 h1
    refine callK_shared (c := c59) rfl rfl rfl ?_
    simp [c59, hv.rm, evLkp_set hv.bm]
    refine condS_split (fun hc => ?_) (fun hc => ?_) <;> simp at hc
    · simp
      exact next _ _ (by simpa [visit, hc] using hv)
    have hNl := hl.snoc hc ⟨h0, h1⟩
    obtain ⟨v, ro, ra, n1, n2, n3, n4⟩ := hv.ro
    obtain ⟨d1, d2, d3, d4, d5, d6⟩ := hv.ne
    obtain ⟨t1, t2, t3, t4⟩ := hv.lt
    obtain ⟨o1, o2, o3, o4⟩ := hv.lo
    have rm := hv.rm
    have rv := hv.rv
    simp [hv.rm, evPut_set hv.bm hc o4, -WR_app]
    simp [d5, ro, -WR_app]
    refine WR_app_acc (cs := (l.map Enc.c).flatten) (n := l.length) (m := 1) (ys := [.int .i64 a]) (by simp; exact ra.set _ n4) (by simp; exact src_psl rfl) (by rfl) (by simp; omega) (room (by simp; omega)) (fun v1 h2 ha1 hm1 => ?_)
    have ha1' : Acc h2 v1 1 ((l ++ [a]).map Enc.c).flatten (l ++ [a]).length := by simpa using ha1
    simp at hm1
    have g := hm1.grow
    simp at g
    have rio : h2.row io = some [v] := by rw [hm1.row (by simpa using t2) n2]; simp [d5, ro]
    have rim : h2.row im = some [.mp m] := by rw [hm1.row (by simpa using t1) n1]; simp [d3, rm]
    have riv : h2.row iv = some [.fn 59 [] [.pt im 0, .pt io 0, .pi (Enc.c p), .pt iv 0]] := by rw [hm1.row (by simpa using t3) n3]; simp [d6, rv]
    have bim : h2.blk m = some (mpSet (l ++ [a])) := by rw [hm1.blk (by simpa using t4) n4]; simp
    have m1 := hm1.ne (by simpa using t1) n1
    have m2 := hm1.ne (by simpa using t2) n2
    have m3 := hm1.ne (by simpa using t3) n3
    have m4 := hm1.ne (by simpa using t4) n4
    have hlo : h2.lo ≤ io := by omega
    simp [rio, hlo, ha1'.one, evIdx_sl, h0, hb, rds_ptr, next_r p.blocks[a.toNat] (hp.2 _ (List.getElem_mem hb))]
    rw [← hsucc]
    have fp := fun k => fold_props hin n ((succ p a).take k) (l ++ [a]) (fun x hx => hbds x (List.mem_of_mem_take hx)) hNl
    have v1i : VI p im io iv m (l ++ [a]) (h2.set io (.cells [v1])) := by
      refine ⟨by simp [d1, rim], by simp [Ne.symm d4, riv], by simp [Ne.symm d5, bim], ⟨v1, by simp, ha1'.set _ m2, m1, m2, m3, m4⟩, ⟨d1, d2, d3, d4, d5, d6⟩, ?_, ?_⟩
      · simp; omega
      · simp; omega
    refine WK_range tgrow (fun k s' h' => VI p im io iv m (((succ p a).take k).foldl (visit (succ p) n) (l ++ [a])) h') (succ p a).length w59_0 rfl (by decide) (by simp) (by simp) (by omega) (by decide) (fun _ _ _ _ j _ => j) (by simpa using v1i) ?_ ?_
    · intro k s' h' hkl jv e24 hs hg
      have f22 : s' 22 = sl (succ p a) := (hs 22 (by decide)).trans (by simp)
      have f4 : s' 4 = .pt iv 0 := (hs 4 (by decide)).trans (by simp)
      have hb2 := hbds _ (List.getElem_mem hkl)
      have hlk := (fp k).2.length_le
      simp [e24, f22, f4, evIdx_nat, rd1_ptr, hkl, jv.rv]
      refine ⟨by decide, ?_⟩
      refine visit_c p hp hin im io iv m n _ _ (fp k).1 hb2.1 hb2.2 (by simp at hlk; omega) jv (fun v h3 jv3 => ?_)
      rw [← foldl_take_succ (visit (succ p) n) (l ++ [a]) (succ p a) k hkl] at jv3
      simp [e24]
      exact jv3
    · intro s' h' jv hs hg
      rw [List.take_length] at jv
      simp
      refine next _ _ ?_
      simpa [visit, hc] using jv

/-- A list that is fresh. -/
theorem preorder_c (p : LProc) (hp : FitP p) (hin : In p) (xs : List Int) (hx : ∀ x ∈ xs, 0 ≤ x ∧ x < (p.blocks.length : Int)) (hxl : xs.length ≤ 1000) {h : AH} {d : Option Nat} {r : List COper} {κ : List KF} {s : Fr} {Q : Fr → AH → Prop} (hlw : h.lo ≤ h.nx)
    (next : ∀ v h', Acc h' v 1 ((fromS p xs).map Enc.c).flatten (fromS p xs).length → Kept h h' → New h v → WR T r κ (Fr.put s d v) h' Q) :
    callK T 100039 [.agg [PV.str p.name, sl p.params, PV.int .i64 p.result, sl p.sig.params, PV.str p.sig.base, sl p.sig.result, PV.str p.sig.rest, sl p.blocks, PV.bool p.extern], sl xs] h d r κ s Q := by
  refine callK_bar tok (c := c100039) rfl rfl rfl hlw ?_
  simp [c100039]
  have hp1 := hp.1
  have fp := fun k => fold_props hin (p.blocks.length + 1) (xs.take k) [] (fun x hx' => hx x (List.mem_of_mem_take hx')) (Nums.nil _)
  have vi0 : VI p (h.nx + 1 + 1) h.nx (h.nx + 1 + 1 + 1) (h.nx + 1) [] ((((h.bar.push (Blk.cells [PV.emp])).push (Blk.map [])).push (Blk.cells [PV.mp (h.nx + 1)])).push
      (Blk.cells [.fn 59 [] [.pt (h.nx + 1 + 1) 0, .pt h.nx 0, .pi (Enc.c p), .pt (h.nx + 1 + 1 + 1) 0]])) := by
    refine ⟨by simp, by simp, by simp [mpSet], ⟨.emp, by simp, Acc.emp, by simp, by simp, by simp, by simp⟩, ?_, ?_, ?_⟩
    · simp
    · simp
    · simp
  refine WK_range tgrow (fun k s' h' => VI p (h.nx + 1 + 1) h.nx (h.nx + 1 + 1 + 1) (h.nx + 1) ((xs.take k).foldl (visit (succ p) (p.blocks.length + 1)) []) h') xs.length w100039_0 rfl (by decide) (by simp) (by simp) (by omega) (by decide) (fun _ _ _ _ j _ => j) (by simpa using vi0) ?_ ?_
  · intro k s' h' hkl jv e14 hs hg
    have f12 : s' 12 = sl xs := (hs 12 (by decide)).trans (by simp)
    have f7 : s' 7 = .pt (h.nx + 1 + 1 + 1) 0 := (hs 7 (by decide)).trans (by simp)
    have hb2 := hx _ (List.getElem_mem hkl)
    have hlk := (fp k).2.length_le
    simp [e14, f12, f7, evIdx_nat, rd1_ptr, hkl, jv.rv]
    refine ⟨by decide, ?_⟩
    refine visit_c p hp hin _ _ _ _ (p.blocks.length + 1) _ _ (fp k).1 hb2.1 hb2.2 (by omega) jv (fun v h3 jv3 => ?_)
    rw [← foldl_take_succ (visit (succ p) (p.blocks.length + 1)) [] xs k hkl] at jv3
    simp [e14]
    exact jv3
  · intro s' h' jv hs hg
    rw [List.take_length] at jv
    have f5 : s' 5 = .pt h.nx 0 := (hs 5 (by decide)).trans (by simp)
    obtain ⟨v, ro, ra, _⟩ := jv.ro
    simp [f5, ro]
    intro e1 e2
    exact next _ _ (ra.unbar e1 hlw) e2 (ra.new e1)

theorem all_c (p : LProc) (hp : FitP p) (hl : laid p = true) {h : AH} {d : Option Nat} {r : List COper} {κ : List KF} {s : Fr} {Q : Fr → AH → Prop} (hlw : h.lo ≤ h.nx)
    (next : ∀ v h', Acc h' v 1 ((order p).map Enc.c).flatten (order p).length → Kept h h' → New h v → WR T r κ (Fr.put s d v) h' Q) :
    callK T 100032 [.agg [PV.str p.name, sl p.params, PV.int .i64 p.result, sl p.sig.params, PV.str p.sig.base, sl p.sig.result, PV.str p.sig.rest, sl p.blocks, PV.bool p.extern]] h d r κ s Q := by
  refine callK_bar tok (c := c100032) rfl rfl rfl hlw ?_
  simp [c100032]
  have hx := (laid_true hl).1
  refine condS_split (fun hc => ?_) (fun hc => ?_) <;> simp at hc
  · have he : order p = [] := by simp [order, hx.2 hc]
    simp
    intro e2
    refine next _ _ (by rw [he]; exact Acc.emp) e2 (fun _ _ _ _ q => by cases q)
  · have he : p.extern = false := by
      cases e : p.extern
      · rfl
      · exact absurd (hx.1 e) hc
    have hpos := laid_pos hl he
    simp
    refine preorder_c p hp (laid_In (laid_true hl)) [0] (fun x hx => by rw [List.mem_singleton.1 hx]; omega) (by simp) (by simp) (fun v h' ha hk hn => ?_)
    have : order p = fromS p [0] := by simp [order, hl, he, fromS]
    rw [← this] at ha
    simp
    intro e1 e2
    exact next _ _ (ha.unbar e1 hlw) e2 (ha.new e1)
end Go.Proofs.Ytpdgjdnipkmocaa

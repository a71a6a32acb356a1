/- The program's 'Reached' and 'Loops'. -/
import Derived.Test.YtpdgjdnipkmocaaF7
set_option linter.unusedVariables false
set_option linter.unusedSimpArgs false
namespace Go.Proofs.Ytpdgjdnipkmocaa
open Go.Ev

theorem nums_sorted (n : Nat) : (nums n).Pairwise (· < ·) := by
  unfold nums
  rw [List.pairwise_map]
  exact List.pairwise_lt_range.imp (by intro a b h; omega)
theorem reached_sorted (p : LProc) : (reached p).Pairwise (· < ·) := (nums_sorted _).filter _
theorem sort_order (p : LProc) : sortI (order p) = reached p := by
  have hn := order_nums p
  refine sorted_unique ((sortI_perm _).trans ?_) (sortI_sorted _) ((reached_sorted p).imp (by intro a b h; omega))
  refine (List.perm_ext_iff_of_nodup hn.1 ((reached_sorted p).imp (by intro a b h; omega))).2 fun x => ?_
  simp only [reached, List.mem_filter, decide_eq_true_eq]
  refine ⟨fun hx => ⟨?_, hx⟩, fun h => h.2⟩
  have := hn.2 x hx
  exact List.mem_map.2 ⟨x.toNat, List.mem_range.2 (by omega), by omega⟩
theorem order_not {p : LProc} (h : laid p = false) : order p = [] := by simp [order, h]
theorem reached_not {p : LProc} (h : laid p = false) : reached p = [] := by simp [reached, order_not h]

section
variable {o : Bool} {h : AH} {d : Option Nat} {r : List COper} {κ : List KF} {s : Fr} {Q : Fr → AH → Prop}

theorem reached_p (p : LProc) (hp : FitP p) : Pure T 15 [.agg (Enc.c p)] (sl (reached p)) true := by
  refine ⟨c15, rfl, rfl, ?_⟩
  have hp1 := hp.1
  have hol := (order_nums p).length
  simp [c15, laid_r p hp]
  refine condS_split (fun hc => ?_) (fun hc => ?_) <;> simp at hc
  · simp [reached_not hc]
  simp
  refine all_c p hp hc (by simp) (fun v h' ha hk hn => ?_)
  simp
  refine opH_sort ha (by omega) (fun h2 ha2 hm2 => ?_)
  rw [sort_order] at ha2
  have e : (order p).length = (reached p).length := by rw [← sort_order, sortI_length]
  rw [e] at ha2
  simp [ha2.snap rfl, ha2.freshInts]
theorem reached_r (p : LProc) (hp : FitP p) : pureK T 15 (some [.agg [PV.str p.name, sl p.params, PV.int .i64 p.result, sl p.sig.params, PV.str p.sig.base, sl p.sig.result, PV.str p.sig.rest, sl p.blocks, PV.bool p.extern]]) o h d r κ s Q = WR T r κ (Fr.put s d (sl (reached p))) h Q := pureK_eq (reached_p p hp) (.inl rfl)

theorem reached_c (p : LProc) (hp : FitP p) (hlw : h.lo ≤ h.nx)
    (next : ∀ v h', Acc h' v 1 ((reached p).map Enc.c).flatten (reached p).length → Kept h h' → New h v → WR T r κ (Fr.put s d v) h' Q) :
    callK T 100015 [.agg [PV.str p.name, sl p.params, PV.int .i64 p.result, sl p.sig.params, PV.str p.sig.base, sl p.sig.result, PV.str p.sig.rest, sl p.blocks, PV.bool p.extern]] h d r κ s Q := by
  refine callK_bar tok (c := c100015) rfl rfl rfl hlw ?_
  have hp1 := hp.1
  have hol := (order_nums p).length
  simp [c100015, laid_r p hp]
  refine condS_split (fun hc => ?_) (fun hc => ?_) <;> simp at hc
  · simp
    intro e2
    exact next _ _ (by rw [reached_not hc]; exact Acc.emp) e2 (fun _ _ _ _ q => by cases q)
  simp
  refine all_c p hp hc (by simp) (fun v h' ha hk hn => ?_)
  simp
  refine opH_sort ha (by omega) (fun h2 ha2 hm2 => ?_)
  rw [sort_order] at ha2
  have e : (order p).length = (reached p).length := by rw [← sort_order, sortI_length]
  rw [e] at ha2
  simp
  intro e1 e2
  exact next _ _ (ha2.unbar e1 hlw) e2 (ha2.new e1)

theorem loopsF_p (p : LProc) (hp : FitP p) (hl : laidP p) (b : Int) (h0 : 0 ≤ b) (h1 : b < (p.blocks.length : Int)) : Pure T 37 ([.int .i64 b] ++ [.pi (Enc.c p)]) (.bool (!decide (b ∈ fromS p (succ p b)))) true := by
  refine ⟨c37, rfl, rfl, ?_⟩
  have hb : b.toNat < p.blocks.length := by omega
  have hp1 := hp.1
  have hsucc : succ p b = Go.Proofs.Ytpdgjdnipkmocaa.next p.blocks[b.toNat] := by simp [succ, hb]
  have hsl := jump_len hp b
  have hbds := laid_In hl b h0 h1
  have fp := (fold_props (laid_In hl) (p.blocks.length + 1) (succ p b) [] hbds (Nums.nil _)).1.length
  simp [c37, evIdx_sl, h0, hb, rds_ptr, next_r p.blocks[b.toNat] (hp.2 _ (List.getElem_mem hb))]
  rw [← hsucc]
  refine preorder_c p hp (laid_In hl) (succ p b) hbds (by omega) (by simp) (fun v h' ha hk hn => ?_)
  simp [ha.snap rfl, pureK_eq (contains_p (fromS p (succ p b)) b (by have : (fromS p (succ p b)).length ≤ p.blocks.length := fp; omega)) (.inl rfl)]
end
end Go.Proofs.Ytpdgjdnipkmocaa

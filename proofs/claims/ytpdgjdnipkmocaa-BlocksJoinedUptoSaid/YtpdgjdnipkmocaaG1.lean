/- Copies of instructions, blocks and procedures. -/
import Derived.Test.YtpdgjdnipkmocaaF9
import Derived.Test.YtpdgjdnipkmocaaEwR
set_option linter.unusedVariables false
set_option linter.unusedSimpArgs false
namespace Go.Proofs.Ytpdgjdnipkmocaa
open Go.Ev

/-- The cells of an instruction whose jumps lie elsewhere. -/
def icell (x : LInstr) (j : PV) : List PV := [.int .i64 x.op, .int .i64 x.to, sl x.args, sl x.more, .int .i64 x.con, .int .i64 x.num, .int .i64 x.fn, j]

section
variable {h : AH} {d : Option Nat} {r : List COper} {κ : List KF} {s : Fr} {Q : Fr → AH → Prop} {S : Nat → Prop}

theorem blk_push_lt {h : AH} {B : Blk} {i n : Nat} (hi : i < n) (hn : n ≤ h.nx) : (h.push B).blk i = h.blk i := by
  rw [blk_push, if_neg (by omega)]

theorem instr_c (x : LInstr) (hx : FitI x) {m : Nat} {v2 v3 v7 : PV} (hm : m + 2 ≤ snapDepth) (r2 : Rep S h (m + 2) v2 (sl x.args)) (r3 : Rep S h (m + 2) v3 (sl x.more)) (r7 : Rep S h (m + 2) v7 (sl x.jump)) (o2 : v2.one = true) (o3 : v3.one = true) (o7 : v7.one = true) (hlw : h.lo ≤ h.nx)
    (next : ∀ j h', Acc h' j 1 (x.jump.map Enc.c).flatten x.jump.length → Kept h h' → New h j → WR T r κ (Fr.put s d (.agg (icell x j))) h' Q) :
    callK T 100068 [.agg [.int .i64 x.op, .int .i64 x.to, v2, v3, .int .i64 x.con, .int .i64 x.num, .int .i64 x.fn, v7]] h d r κ s Q := by
  refine callK_bar tok (c := c100068) rfl rfl rfl hlw ?_
  obtain ⟨l1, l2, l3⟩ := hx
  simp [c100068]
  rw [primCloneI_eq (z := 1) ((r2.blw (.push (.push (.bar h) _) _)).deep hm).snap rfl flat_int (room (by omega))]
  simp
  rw [primCloneI_eq (z := 1) ((r3.blw (.push (.push (.bar h) _) _)).deep hm).snap rfl flat_int (room (by omega))]
  simp
  refine opH_cloneO (r7.blw (.push (.push (.bar h) _) _)).ints (flat_len' _) (by decide) (by simp) (room (by omega)) (fun j h2 ha hm2 => ?_)
  have g := hm2.grow
  simp at g
  have e0 : h2.row h.nx = some [.int .i64 x.op, .int .i64 x.to, v2, v3, .int .i64 x.con, .int .i64 x.num, .int .i64 x.fn, v7] := by rw [hm2.row (by simp) (by simp)]; simp
  have e1 : h2.row (h.nx + 1) = some [.int .i64 0, .int .i64 0, .emp, .emp, .int .i64 0, .int .i64 0, .int .i64 0, .emp] := by rw [hm2.row (by simp) (by simp)]; simp
  have hj0 : ∀ z o n, j ≠ .rf z h.nx o n := hm2.ne (by simp) (by simp)
  have hj1 : ∀ z o n, j ≠ .rf z (h.nx + 1) o n := hm2.ne (by simp) (by simp)
  have hlo2 : h2.lo ≤ h.nx := by omega
  have hlo3 : h2.lo ≤ h.nx + 1 := by omega
  simp [e0, e1, hlo2, hlo3, ha.one]
  intro q1 q2
  refine next j _ ?_ q2 ?_
  · exact Acc.unbar ((ha.set _ hj0).set _ hj1) q1 hlw
  · exact ((ha.set (.cells []) hj0).set (.cells []) hj1).new q1

/-- Own instructions: their cells lie in the slice cv; each has its own jumps. -/
structure CodeR (h : AH) (N : Nat) (cv : PV) (code : List LInstr) (js : List PV) : Prop where
  len : js.length = code.length
  acc : Acc h cv 8 (List.zipWith icell code js).flatten code.length
  jump : ∀ k (hk : k < code.length) (hk' : k < js.length), Acc h js[k] 1 (code[k].jump.map Enc.c).flatten code[k].jump.length
  apart : ∀ k (hk : k < js.length), Apart js[k] cv
  distinct : ∀ k k' (hk : k < js.length) (hk' : k' < js.length), k ≠ k' → Apart js[k] js[k']
  new : (∀ z i o n, cv = .rf z i o n → N ≤ i) ∧ ∀ k (hk : k < js.length) z i o n, js[k] = .rf z i o n → N ≤ i

theorem icell_len (x : LInstr) (j : PV) : (icell x j).length = 8 := rfl
theorem zip_snoc (code : List LInstr) (js : List PV) (k : Nat) (hk : k < code.length) (hj : js.length = k) (j : PV) : (List.zipWith icell (code.take (k + 1)) (js ++ [j])).flatten = (List.zipWith icell (code.take k) js).flatten ++ icell code[k] j := by
  rw [take_succ' hk, List.zipWith_append (by rw [List.length_take]; omega), List.flatten_append]
  simp
theorem zip_len (code : List LInstr) (js : List PV) (h : js.length = code.length) : (List.zipWith icell code js).flatten.length = code.length * 8 := by
  induction code generalizing js with
  | nil => simp
  | cons x code ih =>
    cases js with
    | nil => simp at h
    | cons j js =>
      simp only [List.zipWith_cons_cons, List.flatten_cons, List.length_append, icell_len, ih js (by simpa using h), List.length_cons]
      omega

theorem block_c (b : LBlock) (hb : FitB b) (hpot : ∀ x ∈ b.regs, x.pot.length ≤ 2000000) {m : Nat} {v0 v2 : PV} (hm : m + 4 ≤ snapDepth) (r0 : Rep S h (m + 4) v0 (sl b.regs)) (r2 : Rep S h (m + 4) v2 (sl b.code)) (o0 : v0.one = true) (o2 : v2.one = true) (hlw : h.lo ≤ h.nx)
    (next : ∀ rv cv js h', Acc h' rv 4 (b.regs.map Enc.c).flatten b.regs.length → New h rv → CodeR h' h.nx cv b.code js → Apart rv cv → (∀ k (hk : k < js.length), Apart js[k] rv) → Kept h h' → WR T r κ (Fr.put s d (.agg [rv, .str b.free, cv])) h' Q) :
    callK T 100046 [.agg [v0, .str b.free, v2]] h d r κ s Q := by
  refine callK_bar tok (c := c100046) rfl rfl rfl hlw ?_
  obtain ⟨l1, l2, l3⟩ := hb
  simp [c100046, o0, o2]
  have b0 : Blw h ((h.bar.push (Blk.cells [v0, PV.str b.free, v2])).push (Blk.cells [PV.emp, PV.str { data := #[] }, PV.emp])) := .push (.push (.bar h) _) _
  obtain ⟨c0, s0, cl0, q0⟩ := r0.src
  refine opH_cloneO (by rw [r0.src_blw b0]; exact s0) cl0 (by decide) (by simp) (room (by omega)) (fun rv h1 ha1 hm1 => ?_)
  have g1 := hm1.grow
  simp at g1
  have ea : h1.row h.nx = some [v0, .str b.free, v2] := by rw [hm1.row (by simp) (by simp)]; simp
  have eb : h1.row (h.nx + 1) = some [.emp, .str ⟨#[]⟩, .emp] := by rw [hm1.row (by simp) (by simp)]; simp
  have n1a := hm1.ne (i := h.nx) (by simp) (by simp)
  have n1b := hm1.ne (i := h.nx + 1) (by simp) (by simp)
  have b1 : Blw h h1 := b0.mv hm1 (fun _ _ _ _ e => by cases e)
  have hlo1 : h1.lo ≤ h.nx := by omega
  have rvnew : ∀ z i o n, rv = .rf z i o n → h.nx + 1 + 1 ≤ i := by
    intro z i o n e
    rcases hm1.2 with rfl | rfl | ⟨_, _, _, _, rfl, hi⟩
    · cases e
    · cases e
    · cases e; simpa using hi
  have hl4 : evLen (h1.set h.nx (.cells [rv, .str b.free, v2])) 1 rv = some (.int .i64 b.regs.length) := (ha1.set _ n1a).len
  simp [ea, hlo1, ha1.one, hl4]
  refine WK_range tgrow (fun k s' h' => h'.row h.nx = some [rv, .str b.free, v2] ∧ h'.row (h.nx + 1) = some [.emp, .str ⟨#[]⟩, .emp] ∧ Acc h' rv 4 (((b.regs.take k).map Enc.c).flatten ++ c0.drop (k * 4)) b.regs.length ∧ Blw h h') b.regs.length w100046_0 rfl (by decide) (by simp) (by simp) (by omega) (by decide) (fun _ _ _ _ j _ => j) ?_ ?_ ?_
  · refine ⟨by simp, by simp [eb], by simpa using ha1.set _ n1a, b1.set (Nat.le_refl _) _⟩
  · rintro k s' h' hk ⟨ja, jb, jc, jd⟩ hi hs hg
    have f1 : s' 1 = .pt h.nx 0 := (hs 1 (by decide)).trans (by simp)
    obtain ⟨hlen, ⟨_, h0⟩ | ⟨ir, rfl, hr, hir, hlo⟩⟩ := jc
    · omega
    obtain ⟨ch, rch, ech, lch⟩ := q0.chunk hk
    simp only [c_LReg, RepL_cons, RepL_nil, Rep_bool, Rep_int] at rch
    obtain ⟨_, _, rfl, rfl, _, _, rfl, rfl, _, _, rfl, rfl, pv, _, rfl, rpv, rfl⟩ := rch
    have hz : Enc.z LReg = 4 := rfl
    rw [hz] at ech
    have hk4 : (((b.regs.take k).map Enc.c).flatten).length = k * 4 := flat_take_len b.regs k (by omega)
    have hrow : h'.row ir = some (((b.regs.take k).map Enc.c).flatten ++ [.bool b.regs[k].live, .int .i64 b.regs[k].type, .bool b.regs[k].read, pv] ++ c0.drop ((k + 1) * 4)) := by rw [hr, ech, List.append_assoc]
    have hcell : (((b.regs.take k).map Enc.c).flatten ++ [.bool b.regs[k].live, .int .i64 b.regs[k].type, .bool b.regs[k].read, pv] ++ c0.drop ((k + 1) * 4))[k * 4 + 3]? = some pv := by
      rw [List.append_assoc, List.getElem?_append_right (by omega), hk4]; simp
    have hlt : k * 4 + 3 < (((b.regs.take k).map Enc.c).flatten ++ [.bool b.regs[k].live, .int .i64 b.regs[k].type, .bool b.regs[k].read, pv] ++ c0.drop ((k + 1) * 4)).length := by
      rw [List.append_assoc, List.length_append, List.length_append, hk4]; simp; omega
    have hset : (((b.regs.take k).map Enc.c).flatten ++ [.bool b.regs[k].live, .int .i64 b.regs[k].type, .bool b.regs[k].read, pv] ++ c0.drop ((k + 1) * 4)).set (k * 4 + 3) (sl b.regs[k].pot) = ((b.regs.take (k + 1)).map Enc.c).flatten ++ c0.drop ((k + 1) * 4) := by
      rw [flat_take_succ _ _ hk, List.append_assoc, List.set_append_right _ _ (by omega), hk4]
      simp
    generalize ((b.regs.take k).map Enc.c).flatten ++ [.bool b.regs[k].live, .int .i64 b.regs[k].type, .bool b.regs[k].read, pv] ++ c0.drop ((k + 1) * 4) = X at hrow hcell hlt hset
    generalize hY : ((b.regs.take (k + 1)).map Enc.c).flatten ++ c0.drop ((k + 1) * 4) = Y at hset
    have hrv := rvnew _ _ _ _ rfl
    have hp := hpot _ (List.getElem_mem hk)
    have rp : Rep S h' (m + 3) pv (sl b.regs[k].pot) := rpv.blw jd
    simp [hi, f1, ja, evIdx_rf hk, hrow, hcell]
    rw [primCloneI_eq (z := 1) (rp.deep (by omega)).snap rfl flat_str (room (by omega))]
    have hlo' : h'.lo ≤ ir := by omega
    simp [ja, evIdx_rf hk, hrow, hlo', hlt, hset, hi]
    have hne : ¬ h.nx = ir := by omega
    have hne2 : ¬ h.nx + 1 = ir := by omega
    simp [hne, hne2, ja, jb]
    refine ⟨⟨?_, .inr ⟨ir, rfl, by simp, by simpa using hir, by simpa using hlo⟩⟩, jd.set (by omega) _⟩
    have hcl := cl0
    rw [← hY]
    rw [hz] at hcl
    rw [List.length_append, flat_take_len _ _ (by omega), List.length_drop, hcl, hz]
    have : (k + 1) * 4 ≤ b.regs.length * 4 := Nat.mul_le_mul_right _ hk
    omega
  · rintro s' h' ⟨ja, jb, jc, jd⟩ hs hg
    have hz : Enc.z LReg = 4 := rfl
    rw [List.take_length, List.drop_of_length_le (by rw [cl0, hz]; omega), List.append_nil] at jc
    have f1 : s' 1 = .pt h.nx 0 := (hs 1 (by decide)).trans (by simp)
    have f2 : s' 2 = .pt (h.nx + 1) 0 := (hs 2 (by decide)).trans (by simp)
    have glo := hg.eq
    have gle := hg.le
    simp at glo gle
    simp [f1, ja]
    obtain ⟨c2, s2, cl2, q2⟩ := r2.src
    refine opH_cloneO (by rw [r2.src_blw jd]; exact s2) cl2 (by decide) (by omega) (room (by omega)) (fun cv h3 ha3 hm3 => ?_)
    have g3 := hm3.grow
    have ea3 : h3.row h.nx = some [rv, .str b.free, v2] := by rw [hm3.row (by omega) (by simp)]; exact ja
    have eb3 : h3.row (h.nx + 1) = some [.emp, .str ⟨#[]⟩, .emp] := by rw [hm3.row (by omega) (by simp)]; exact jb
    have n3a := hm3.ne (i := h.nx) (by omega) (by simp)
    have n3b := hm3.ne (i := h.nx + 1) (by omega) (by simp)
    have b3 : Blw h h3 := jd.mv hm3 (fun _ _ _ _ e => by cases e)
    have jc3 : Acc h3 rv 4 (b.regs.map Enc.c).flatten b.regs.length := jc.mv hm3 (Apart.emp' _)
    have rc : Apart rv cv := (Apart.emp' rv).mv hm3 jc
    have cvnew : ∀ z i o n, cv = .rf z i o n → h'.nx ≤ i := by
      intro z i o n e
      rcases hm3.2 with rfl | rfl | ⟨_, _, _, _, rfl, hi⟩
      · cases e
      · cases e
      · cases e; exact hi
    have hlo3 : h3.lo ≤ h.nx := by omega
    have hl8 : evLen (h3.set h.nx (.cells [rv, .str b.free, cv])) 1 cv = some (.int .i64 b.code.length) := (ha3.set _ n3a).len
    simp [f1, ea3, hlo3, ha3.one, hl8]
    refine WK_range tgrow (fun k s' h' => h'.row h.nx = some [rv, .str b.free, cv] ∧ h'.row (h.nx + 1) = some [.emp, .str ⟨#[]⟩, .emp] ∧ Acc h' rv 4 (b.regs.map Enc.c).flatten b.regs.length ∧ Blw h h' ∧ ∃ js : List PV, js.length = k ∧
      Acc h' cv 8 ((List.zipWith icell (b.code.take k) js).flatten ++ c2.drop (k * 8)) b.code.length ∧ (∀ i (hi : i < b.code.length) (hi' : i < js.length), Acc h' js[i] 1 (b.code[i].jump.map Enc.c).flatten b.code[i].jump.length) ∧
      (∀ i (hi' : i < js.length), Apart js[i] cv ∧ Apart js[i] rv ∧ ∀ z a o n, js[i] = .rf z a o n → h.nx + 1 < a) ∧ (∀ i i' (hi : i < js.length) (hi' : i' < js.length), i ≠ i' → Apart js[i] js[i'])) b.code.length w100046_1 rfl (by decide) (by simp) (by simp) (by omega) (by decide) (fun _ _ _ _ j _ => j) ?_ ?_ ?_
    · refine ⟨by simp, by simp [eb3], jc3.set _ n1a, b3.set (Nat.le_refl _) _, [], rfl, by simpa using ha3.set _ n3a, by simp, by simp, by simp⟩
    · rintro k s2 h2 hk ⟨ka, kb, kc, kd, js, kl, kcv, kj, kn, kk⟩ hi hs2 hg2
      have g1 : s2 1 = .pt h.nx 0 := (hs2 1 (by decide)).trans (by simp [f1])
      have gl2 := hg2.eq
      have gn2 := hg2.le
      simp at gl2 gn2
      obtain ⟨hlen, ⟨_, h0⟩ | ⟨ic, rfl, hr, hic, hlo⟩⟩ := kcv
      · omega
      have hicn := cvnew _ _ _ _ rfl
      obtain ⟨ch, rch, ech, lch⟩ := q2.chunk hk
      simp only [c_LInstr, RepL_cons, RepL_nil, Rep_bool, Rep_int] at rch
      obtain ⟨_, _, rfl, rfl, _, _, rfl, rfl, u2, _, rfl, r2', u3, _, rfl, r3', _, _, rfl, rfl, _, _, rfl, rfl, _, _, rfl, rfl, u7, _, rfl, r7', rfl⟩ := rch
      have hz8 : Enc.z LInstr = 8 := rfl
      rw [hz8] at ech
      have hk8 : (List.zipWith icell (b.code.take k) js).flatten.length = k * 8 := by
        rw [zip_len _ _ (by rw [kl, List.length_take]; omega), List.length_take, Nat.min_eq_left (by omega)]
      have hrd : (((List.zipWith icell (b.code.take k) js).flatten ++ c2.drop (k * 8)).drop (k * 8)).take 8 = [.int .i64 b.code[k].op, .int .i64 b.code[k].to, u2, u3, .int .i64 b.code[k].con, .int .i64 b.code[k].num, .int .i64 b.code[k].fn, u7] := by
        rw [List.drop_left' hk8, ech]
        rfl
      have hl8' : k * 8 + 8 ≤ ((List.zipWith icell (b.code.take k) js).flatten ++ c2.drop (k * 8)).length := by
        rw [hlen]; have : (k + 1) * 8 ≤ b.code.length * 8 := Nat.mul_le_mul_right _ hk
        omega
      have hset : ∀ j, splice ((List.zipWith icell (b.code.take k) js).flatten ++ c2.drop (k * 8)) (k * 8) (icell b.code[k] j) = (List.zipWith icell (b.code.take (k + 1)) (js ++ [j])).flatten ++ c2.drop ((k + 1) * 8) := by
        intro j
        rw [zip_snoc _ _ _ hk kl, splice, List.take_left' hk8, icell_len]
        congr 1
        rw [← List.drop_drop, List.drop_left' hk8, List.drop_drop, Nat.succ_mul]
      generalize hX : (List.zipWith icell (b.code.take k) js).flatten ++ c2.drop (k * 8) = X at *
      have one : ∀ {u : PV} {l : List Int}, Rep S h (m + 3) u (sl l) → u.one = true := by
        rintro u l ⟨z, cs, e1, _⟩
        cases u <;> first | rfl | simp [src] at e1
      simp [hi, g1, ka, evIdx_rf hk, hr, hl8', hrd]
      refine instr_c b.code[k] (l3 _ (List.getElem_mem hk)) (m := m + 1) (by omega) (r2'.blw kd) (r3'.blw kd) (r7'.blw kd) (one r2') (one r3') (one r7') (by omega) (fun j h4 ha4 hk4 hn4 => ?_)
      have hr4 : h4.row ic = some X := by rw [hk4.row (by omega)]; exact hr
      have hlo4 : h4.lo ≤ ic := by rw [hk4.2.1]; omega
      have n4 := hk4.1
      simp [evIdx_rf hk, hr4, hlo4]
      rw [show wrA h4 ic (some X) (k * 8) 8 (icell b.code[k] j) = _ from wrA_some ⟨rfl, hl8'⟩, hset j]
      generalize hY : (List.zipWith icell (b.code.take (k + 1)) (js ++ [j])).flatten ++ c2.drop ((k + 1) * 8) = Y
      have nic : ∀ z o n, rv ≠ .rf z ic o n := fun z o n e => rc _ _ _ _ _ _ _ e rfl
      have jic : ∀ z o n, j ≠ .rf z ic o n := fun z o n e => by have := hn4 _ _ _ _ e; omega
      have jsic : ∀ i (hi' : i < js.length) z o n, js[i] ≠ .rf z ic o n := fun i hi' z o n e => (kn i hi').1 _ _ _ _ _ _ _ e rfl
      have hne : ¬ h.nx = ic := by omega
      have hne2 : ¬ h.nx + 1 = ic := by omega
      have e1 : h4.row h.nx = some [rv, .str b.free, .rf 8 ic 0 b.code.length] := by rw [hk4.row (by omega)]; exact ka
      have e2 : h4.row (h.nx + 1) = some [.emp, .str ⟨#[]⟩, .emp] := by rw [hk4.row (by omega)]; exact kb
      have kc4 := hk4.acc kc
      simp [hne, hne2, e1, e2, hi]
      refine ⟨kc4.set _ nic, (kd.trans hk4.blw).set (by omega) _, js ++ [j], by simp [kl], ?_, ?_, ?_, ?_⟩
      · rw [hY]
        refine ⟨?_, .inr ⟨ic, rfl, by simp, by simp; omega, by simpa using hlo4⟩⟩
        rw [← hY, List.length_append, zip_len _ _ (by simp [kl, List.length_take]; omega), List.length_take, List.length_drop, cl2, show Enc.z LInstr = 8 from rfl]
        have : (k + 1) * 8 ≤ b.code.length * 8 := Nat.mul_le_mul_right _ hk
        rw [Nat.min_eq_left (by omega)]
        omega
      · intro i hi1 hi2
        by_cases hij : i < js.length
        · rw [List.getElem_append_left hij]
          exact (hk4.acc (kj i hi1 hij)).set _ (jsic i hij)
        · have hik : i = k := by simp [kl] at hi2 hij; omega
          subst hik
          simp only [List.getElem_append_right (show js.length ≤ i by omega), kl, Nat.sub_self, List.getElem_cons_zero]
          exact ha4.set _ jic
      · intro i hi2
        by_cases hij : i < js.length
        · rw [List.getElem_append_left hij]; exact kn i hij
        · have hik : i = k := by simp [kl] at hi2 hij; omega
          subst hik
          simp only [List.getElem_append_right (show js.length ≤ i by omega), kl, Nat.sub_self, List.getElem_cons_zero]
          refine ⟨fun z o n a z' o' n' e e' => ?_, hn4.apart kc, fun z a o n e => by have := hn4 _ _ _ _ e; omega⟩
          cases e'
          exact jic _ _ _ e
      · intro i i' hi1 hi2 hne
        by_cases h1 : i < js.length
        · by_cases h2' : i' < js.length
          · rw [List.getElem_append_left h1, List.getElem_append_left h2']; exact kk i i' h1 h2' hne
          · have hik : i' = k := by simp [kl] at hi2 h2'; omega
            subst hik
            rw [List.getElem_append_left h1]
            simp only [List.getElem_append_right (show js.length ≤ i' by omega), kl, Nat.sub_self, List.getElem_cons_zero]
            exact (hn4.apart (kj i (by omega) h1)).symm
        · have hik : i = k := by simp [kl] at hi1 h1; omega
          subst hik
          simp only [List.getElem_append_right (show js.length ≤ i by omega), kl, Nat.sub_self, List.getElem_cons_zero]
          by_cases h2' : i' < js.length
          · rw [List.getElem_append_left h2']
            exact hn4.apart (kj i' (by omega) h2')
          · have : i' = i := by simp [kl] at hi2 h2'; omega
            omega
    · rintro s2 h2 ⟨ka, kb, kc, kd, js, kl, kcv, kj, kn, kk⟩ hs2 hg2
      rw [List.take_length, List.drop_of_length_le (by rw [cl2, show Enc.z LInstr = 8 from rfl]; omega), List.append_nil] at kcv
      have g1 : s2 1 = .pt h.nx 0 := (hs2 1 (by decide)).trans (by simp [f1])
      have g2 : s2 2 = .pt (h.nx + 1) 0 := (hs2 2 (by decide)).trans (by simp [f2])
      have gl2 := hg2.eq
      have gn2 := hg2.le
      simp at gl2 gn2
      have hlo2 : h2.lo ≤ h.nx + 1 := by omega
      simp [g1, g2, ka, kb, hlo2]
      intro q1 q2
      have m1 : ∀ z o n, rv ≠ .rf z (h.nx + 1) o n := n1b
      have m2 : ∀ z o n, cv ≠ .rf z (h.nx + 1) o n := n3b
      have m3 : ∀ i (hi' : i < js.length) z o n, js[i] ≠ .rf z (h.nx + 1) o n := fun i hi' z o n e => by have := (kn i hi').2.2 _ _ _ _ e; omega
      refine next rv cv js _ (Acc.unbar (kc.set _ m1) q1 hlw) (fun z i o n e => by have := rvnew _ _ _ _ e; omega) ⟨kl, Acc.unbar (kcv.set _ m2) q1 hlw, fun i hi hi' => Acc.unbar ((kj i hi hi').set _ (m3 i hi')) q1 hlw, fun i hi => (kn i hi).1, kk, fun z i o n e => by have := cvnew _ _ _ _ e; omega, fun i hi z a o n e => by have := (kn i hi).2.2 _ _ _ _ e; omega⟩ rc (fun i hi => (kn i hi).2.1) q2
end
end Go.Proofs.Ytpdgjdnipkmocaa

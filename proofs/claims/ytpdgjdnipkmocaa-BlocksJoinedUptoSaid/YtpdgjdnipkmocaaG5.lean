/- What 'tidy' computes: the loop over the blocks. -/
import Derived.Test.YtpdgjdnipkmocaaG4
set_option linter.unusedVariables false
set_option linter.unusedSimpArgs false
namespace Go.Proofs.Ytpdgjdnipkmocaa
open Go.Ev

def zero9 : List PV := [.str ⟨#[]⟩, .emp, .int .i64 0, .emp, .str ⟨#[]⟩, .emp, .str ⟨#[]⟩, .emp, .bool false]

/-- The memory of 'tidy' before round k. -/
structure TJ (h : AH) (p : LProc) (l : List Int) (lv w : PV) (i2 i4 : Nat) (k : Nat) (h' : AH) : Prop where
  bl : Blw h h'
  r2 : h'.row i2 = some zero9
  aw : Acc h' w 1 (p.sig.params.map Enc.c).flatten p.sig.params.length
  al : Acc h' lv 1 (l.map Enc.c).flatten l.length
  w4 : ¬ nm w i4 ∧ ¬ nm w i2
  l4 : ¬ nm lv i4 ∧ ¬ nm lv i2
  ne : i2 ≠ i4
  lt : i2 < h'.nx ∧ i4 < h'.nx ∧ h'.lo ≤ i2 ∧ h'.lo ≤ i4
  up : h.nx ≤ i2 ∧ h.nx ≤ i4
  out : ∃ bv bs, ∃ S : Nat → Prop, h'.row i4 = some (pcell p (sl p.params) w (sl p.sig.result) bv) ∧ Acc h' bv 3 bs k ∧
    RepL (Rep S h' 4) bs (((l.take k).map fun a => tidyB l (blockAt p a)).map Enc.c).flatten ∧ (∀ i, S i → i ≠ i4 ∧ i ≠ i2 ∧ ¬ nm bv i ∧ h.nx ≤ i) ∧ Apart w bv ∧ Apart lv bv ∧ ¬ nm bv i4 ∧ ¬ nm bv i2 ∧ (∀ i, nm bv i → h.nx ≤ i)

theorem getLast_eq {b : LBlock} (hl : 0 < b.code.length) : b.code.getLast? = some (b.code[b.code.length - 1]) := by
  rw [List.getLast?_eq_getElem?, List.getElem?_eq_getElem (by omega)]

theorem tidyC_eq {l : List Int} {c : List LInstr} (hl : 0 < c.length) : tidyC l c = c.set (c.length - 1) (tidyI l c[c.length - 1]) := by
  unfold tidyC
  rw [List.getLast?_eq_getElem?, List.getElem?_eq_getElem (by omega)]
  simp only
  apply List.ext_getElem
  · simp; omega
  · intro i h1 h2
    rw [List.getElem_append]
    split
    · rename_i hi
      rw [List.length_dropLast] at hi
      rw [List.getElem_set_ne (by omega), List.getElem_dropLast]
    · rename_i hi
      rw [List.length_dropLast] at hi
      have : i = c.length - 1 := by simp at h2; omega
      subst this
      simp

theorem isJ_iff (x : LInstr) : isJ x = true ↔ (x.op = 8 ∨ x.op = 9 ∨ x.op = 11) := by simp [isJ, or_assoc]
theorem next_tidy {l : List Int} {b : LBlock} (hl : 0 < b.code.length) : (tidyI l b.code[b.code.length - 1]).jump = if next b = [] then b.code[b.code.length - 1].jump else (next b).map (idxOf l) := by
  rw [next_eq hl]
  generalize b.code[b.code.length - 1] = x
  simp only [tidyI]
  cases h : isJ x
  · have : ¬ (x.op = 8 ∨ x.op = 9 ∨ x.op = 11) := fun q => by rw [(isJ_iff x).2 q] at h; cases h
    simp [this]
  · have := (isJ_iff x).1 h
    simp only [this, if_true]
    by_cases hj : x.jump = [] <;> simp [hj]

/-- Other jumps in one place. -/
theorem CodeR.setJump {h h' : AH} {N : Nat} {cv : PV} {code : List LInstr} {js : List PV} (c : CodeR h N cv code js) (k0 : Nat) (hk0 : k0 < code.length) (hk0' : k0 < js.length) (x : LInstr) (hx : ∀ j, icell x j = icell code[k0] j)
    (hn : h'.nx = h.nx) (hlo : h'.lo = h.lo) (hb : ∀ i, ¬ nm js[k0] i → h'.blk i = h.blk i) (hj : Acc h' js[k0] 1 (x.jump.map Enc.c).flatten x.jump.length) : CodeR h' N cv (code.set k0 x) js := by
  refine ⟨by rw [List.length_set]; exact c.len, ?_, fun k hk hk' => ?_, c.apart, c.distinct, c.new⟩
  · have e : List.zipWith icell (code.set k0 x) js = List.zipWith icell code js := by
      apply List.ext_getElem
      · simp
      · intro i h1 h2
        simp only [List.getElem_zipWith, List.getElem_set]
        split
        · rename_i q; subst q; exact hx _
        · rfl
    rw [e, List.length_set]
    exact c.acc.of_nm (by omega) hlo fun i hi _ => hb i fun q => (c.apart k0 hk0').clash q hi
  · by_cases hkk : k = k0
    · subst hkk
      simp only [List.getElem_set_self]
      exact hj
    · have h1 : (code.set k0 x)[k] = code[k]'(by simpa using hk) := List.getElem_set_ne (Ne.symm hkk) _
      rw [h1]
      exact (c.jump k (by simpa using hk) hk').of_nm (by omega) hlo fun i hi _ => hb i fun q => (c.distinct k k0 hk' hk0' hkk).clash hi q

theorem CodeR.keep {h h' : AH} {N : Nat} {cv : PV} {code : List LInstr} {js : List PV} (c : CodeR h N cv code js) (hn : h.nx ≤ h'.nx) (hlo : h'.lo = h.lo) (hb : ∀ i, N ≤ i → i < h.nx → h'.blk i = h.blk i) : CodeR h' N cv code js :=
  ⟨c.len, c.acc.of_nm hn hlo fun i ⟨_, _, _, e⟩ hi => hb i (c.new.1 _ _ _ _ e) hi, fun k hk hk' => (c.jump k hk hk').of_nm hn hlo fun i ⟨_, _, _, e⟩ hi => hb i (c.new.2 k hk' _ _ _ _ e) hi, c.apart, c.distinct, c.new⟩

theorem tidy_in0 {κ : List KF} {s : Fr} {h : AH} {Q : Fr → AH → Prop} (e36 : s 36 = .int .i64 ((0 : Nat) : Int)) (e37 : s 37 = .int .i64 0)
    (next : ∀ s', (∀ t, t ∉ w100041_1 → s' t = s t) → WK T .skip κ s' h Q) : WK T (.loop c100041_1) (.block 2 :: κ) s h Q := by
  refine WK_range tgrow (fun k s' h' => h' = h) 0 w100041_1 rfl (by decide) e37 e36 (by omega) (by decide) (fun _ _ _ _ j _ => j) rfl (fun k s' h' hk => absurd hk (by omega)) ?_
  rintro s' h' rfl hs hg
  exact next s' hs

theorem zip_jump (code : List LInstr) (js : List PV) : ∀ (k : Nat) (hk : k < code.length) (hk' : k < js.length), (List.zipWith icell code js).flatten[k * 8 + 7]? = some js[k] := by
  induction code generalizing js with
  | nil => intro k hk; simp at hk
  | cons x code ih =>
    intro k hk hk'
    cases js with
    | nil => simp at hk'
    | cons j js =>
      rw [List.zipWith_cons_cons, List.flatten_cons]
      cases k with
      | zero => rfl
      | succ k =>
        rw [List.getElem?_append_right (by rw [icell_len]; omega), icell_len, show (k + 1) * 8 + 7 - 8 = k * 8 + 7 by omega, ih js k (by simpa using hk) (by simpa using hk')]
        rfl

theorem tidy_in2 {κ : List KF} {s : Fr} {h : AH} {Q : Fr → AH → Prop} (l : List Int) (hl : l.length ≤ 100000) (b : LBlock) (fb : FitB b) (hbl : 0 < b.code.length) {lv : PV} {ic N : Nat} {js : List PV} (hjn : b.code.length - 1 < js.length)
    (e3 : s 3 = lv) (e8 : s 8 = .pt ic ((b.code.length - 1) * 8)) (e35 : s 35 = sl (Go.Proofs.Ytpdgjdnipkmocaa.next b)) (e36 : s 36 = .int .i64 (Go.Proofs.Ytpdgjdnipkmocaa.next b).length) (e37 : s 37 = .int .i64 0) (hnl : (Go.Proofs.Ytpdgjdnipkmocaa.next b).length ≤ 1000)
    (ha : Acc h lv 1 (l.map Enc.c).flatten l.length) (c : CodeR h N (.rf 8 ic 0 b.code.length) b.code js) (n1 : Apart lv js[b.code.length - 1])
    (next : ∀ s' h', (∀ t, t ∉ w100041_1 → s' t = s t) → CodeR h' N (.rf 8 ic 0 b.code.length) (tidyC l b.code) js → h'.nx = h.nx → h'.lo = h.lo → (∀ i, ¬ nm js[b.code.length - 1] i → h'.blk i = h.blk i) → WK T .skip κ s' h' Q) : WK T (.loop c100041_1) (.block 2 :: κ) s h Q := by
  have hcn : b.code.length - 1 < b.code.length := by omega
  have hti := next_tidy (l := l) hbl
  have hic : ∀ j, icell (tidyI l b.code[b.code.length - 1]) j = icell b.code[b.code.length - 1] j := fun j => by
    simp only [tidyI]; split <;> rfl
  by_cases hn : Go.Proofs.Ytpdgjdnipkmocaa.next b = []
  · rw [hn] at e36
    refine tidy_in0 e36 e37 (fun s' hs => next s' h hs ?_ rfl rfl (fun _ _ => rfl))
    rw [tidyC_eq hbl]
    refine c.setJump _ hcn hjn _ hic rfl rfl (fun _ _ => rfl) ?_
    rw [hti, if_pos hn]
    exact c.jump _ hcn hjn
  · have hj : Go.Proofs.Ytpdgjdnipkmocaa.next b = b.code[b.code.length - 1].jump := by
      have := next_eq hbl
      rw [this] at hn ⊢
      simp only at hn ⊢
      split at hn
      · rename_i q; rw [if_pos q]
      · exact absurd rfl hn
    obtain ⟨lcv, ⟨q, _⟩ | ⟨_, q, rc, hic', loc⟩⟩ := c.acc
    · cases q
    · cases q
      have hcj := c.jump _ hcn hjn
      rw [← hj] at hcj
      refine tidy_in l (Go.Proofs.Ytpdgjdnipkmocaa.next b) hnl hl e3 e8 e35 e36 e37 ha rc (zip_jump _ _ _ hcn hjn) hcj hic' n1 (fun z o n e => c.apart _ hjn _ _ _ _ _ _ _ e rfl) (fun s' h' hs a1 a2 a3 a4 => next s' h' hs ?_ a3 a4 a2)
      rw [tidyC_eq hbl]
      refine c.setJump _ hcn hjn _ hic a3 a4 a2 ?_
      rw [hti, if_neg hn, List.length_map]
      exact a1

theorem tidy_round (p : LProc) {S : Nat → Prop} {m0 : Nat} {v1 v3 v5 v7 : PV} {h : AH} (hm0 : m0 + 5 ≤ snapDepth) (r7 : Rep S h (m0 + 5) v7 (sl p.blocks)) (hp : FitP p) (hpot : ∀ b ∈ p.blocks, ∀ x ∈ b.regs, x.pot.length ≤ 2000000) (hl : laidP p)
    (l : List Int) (hN : Nums p.blocks.length l) (lv w : PV) (i2 i4 k : Nat) (hk : k < l.length) {s : Fr} {h' : AH} {Q : Fr → AH → Prop} {P : EX → Fr → AH → Prop} {κ : List KF}
    (e1 : s 1 = .pi (pcell p v1 v3 v5 v7)) (e3 : s 3 = lv) (e4 : s 4 = .pt i4 0) (e15 : s 15 = lv) (e17 : s 17 = .int .i64 (k : Nat)) (hlw : h'.lo ≤ h'.nx) (tj : TJ h p l lv w i2 i4 k h')
    (next : ∀ s2 h2, s2 17 = .int .i64 (k : Nat) → TJ h p l lv w i2 i4 (k + 1) h2 → P .nrm s2 h2) (B : CCode) (hB : c100041_0 = rangeC 17 16 18 58 0 1 B) : WK T B (.abs P :: κ) s h' Q := by
  have hlen := hN.length
  have hp1 := hp.1
  obtain ⟨a0, a1⟩ := hN.2 _ (List.getElem_mem hk)
  generalize ha : l[k] = a at a0 a1
  have hb : a.toNat < p.blocks.length := by omega
  have haN : (a.toNat : Int) = a := by omega
  have hbm := List.getElem_mem hb
  generalize hbb : p.blocks[a.toNat] = b at hbm
  have hba : blockAt p a = b := by simp [blockAt, hb, hbb]
  have fb := hp.2 b hbm
  obtain ⟨x, hx, _⟩ := hl.2 b hbm
  have hbl : 0 < b.code.length := by
    cases hc : b.code with
    | nil => rw [hc] at hx; cases hx
    | cons _ _ => simp
  obtain ⟨bv, bs, S', er4, abv, rbs, sS, awb, alb, nb4, nb2, upb⟩ := tj.out
  obtain ⟨t2, t4, o2, o4⟩ := tj.lt
  have hsl := jump_len hp a
  cases hB
  obtain ⟨pp, cs, q1, q2, rch⟩ := (r7.blw tj.bl).elem hb
  have hz3 : Enc.z LBlock = 3 := rfl
  rw [haN, hz3] at q1
  rw [hz3] at q2
  rw [hbb] at rch
  simp only [c_LBlock, RepL_cons, RepL_nil, Rep_str] at rch
  obtain ⟨u0, _, rfl, ru0, _, _, rfl, rfl, u2, _, rfl, ru2, rfl⟩ := rch
  have hidx : evIdx 1 lv (k : Int) = evIdx 1 lv (k : Int) := rfl
  obtain ⟨lcl, ⟨_, l0⟩ | ⟨il, rfl, rl, hil, lol⟩⟩ := tj.al
  · omega
  have hlk : ((l.map Enc.c).flatten)[k]? = some (.int .i64 a) := by
    rw [flat_ints, List.getElem?_map, List.getElem?_eq_getElem hk, ha]; rfl
  simp [e1, e15, e17, evIdx_rf hk, rl, hlk, pcell, q1, q2]
  refine block_c b fb (hpot b hbm) (m := m0) (by omega) ru0 ru2 (Rep.one ru0) (Rep.one ru2) hlw (fun rv cv js h1 arv nrv crv rca rja kp1 => ?_)
  have n1 := kp1.1
  have lo1 := kp1.2.1
  have hlo1 : h1.lo ≤ h1.nx := by omega
  have hcn : b.code.length - 1 < b.code.length := by omega
  have hjn : b.code.length - 1 < js.length := by rw [crv.len]; exact hcn
  obtain ⟨lcv, ⟨_, c0⟩ | ⟨ic, rfl, rc, hic, loc⟩⟩ := crv.acc
  · omega
  have hicn : h'.nx ≤ ic := crv.new.1 _ _ _ _ rfl
  have hw : IntKind.i64.wrap ((b.code.length : Int) - 1) = ((b.code.length - 1 : Nat) : Int) := by rw [w64 (by have := fb.1; omega)]; omega
  generalize hjv : js[b.code.length - 1] = jv
  have jvn : ∀ z i o n, jv = .rf z i o n → h'.nx ≤ i := fun z i o n e => crv.new.2 _ hjn _ _ _ _ (hjv.trans e)
  have jvc : Apart jv (.rf 8 ic 0 b.code.length) := hjv ▸ crv.apart _ hjn
  have jvr : Apart jv rv := hjv ▸ rja _ hjn
  -- the block as it stands for its data
  have srv : Rep (fun _ => True) (h1.push (.cells [rv, .str b.free, .rf 8 ic 0 b.code.length])) 11 rv (sl b.regs) := Acc.rep (α := LReg) (d := 10) (arv.push _) rfl (fun _ _ => trivial) rs_LReg
  have scv : Rep (fun _ => True) (h1.push (.cells [rv, .str b.free, .rf 8 ic 0 b.code.length])) 11 (.rf 8 ic 0 b.code.length) (sl b.code) :=
    CodeR.rep (d := 8) (crv.keep (Nat.le_succ _) rfl fun i _ hi => by rw [blk_push, if_neg (by omega)]) (fun _ _ => trivial)
  have hs1 := srv.snap
  have hs2 := scv.snap
  have hnl : (Go.Proofs.Ytpdgjdnipkmocaa.next b).length ≤ 1000 := by
    have := jump_len hp a
    simpa [succ, hb, hbb] using this
  have lne : ¬ h1.nx = ic := by omega
  simp [hlo1, hw, evIdx_rf hcn, hs1, hs2]
  rw [show [sl b.regs, PV.str b.free, sl b.code] = Enc.c b from rfl, pureK_eq (next_p b fb) (.inl rfl)]
  simp
  have alh : Acc (h1.push (.cells [rv, .str b.free, .rf 8 ic 0 b.code.length])) (.rf 1 il 0 l.length) 1 (l.map Enc.c).flatten l.length :=
    (kp1.acc ⟨lcl, .inr ⟨il, rfl, rl, hil, lol⟩⟩).push _
  refine tidy_in2 l (by omega) b fb hbl (N := h'.nx) hjn (by simp [e3]) (by simp) (by simp) (by simp) (by simp) hnl alh (crv.keep (Nat.le_succ _) rfl fun i _ hi => by rw [blk_push, if_neg (by omega)]) (Apart.of fun i a b => ?_) (fun s2 h2 hs2 cr2 nx2 lo2 bk2 => ?_)
  · obtain ⟨z, o, n, e⟩ := a
    obtain ⟨z', o', n', e'⟩ := b
    cases e
    rw [hjv] at e'
    have := jvn _ _ _ _ e'
    omega
  rw [hjv] at bk2
  simp at nx2 lo2
  have f4 : s2 4 = .pt i4 0 := (hs2 4 (by decide)).trans (by simp [e4])
  have f7 : s2 7 = .pt h1.nx 0 := (hs2 7 (by decide)).trans (by simp)
  have f17 : s2 17 = .int .i64 (k : Nat) := (hs2 17 (by decide)).trans (by simp [e17])
  have old : ∀ i, i < h'.nx → h2.blk i = h'.blk i := fun i hi => by
    rw [bk2 i fun ⟨z, o, n, e⟩ => by have := jvn _ _ _ _ e; omega, blk_push, if_neg (by omega)]
    exact kp1.2.2 i hi
  have r4 : h2.row i4 = some (pcell p (sl p.params) w (sl p.sig.result) bv) := by rw [← er4]; simp only [AH.row, old i4 t4]
  have r7' : h2.row h1.nx = some [rv, .str b.free, .rf 8 ic 0 b.code.length] := by
    have : h2.blk h1.nx = some (.cells [rv, .str b.free, .rf 8 ic 0 b.code.length]) := by
      rw [bk2 h1.nx fun ⟨z, o, n, e⟩ => by have := (crv.jump _ hcn hjn).names ⟨z, o, n, hjv.trans e⟩; omega]; simp
    simp only [AH.row, this]
  have ab2 : Acc h2 bv 3 bs k := abv.of_nm (by omega) (by omega) fun i _ hi => old i hi
  simp [f4, f7, r4, r7', pcell, -WR_app]
  refine WR_app_acc (m := 1) (ys := [rv, .str b.free, .rf 8 ic 0 b.code.length]) (by simpa using ab2) (by simp; exact src_psl rfl) (by rfl) (by omega) (room (by simp; omega)) (fun bv' h3 ab3 mv3 => ?_)
  simp at mv3
  have g3 := mv3.grow
  have r43 : h3.row i4 = some (pcell p (sl p.params) w (sl p.sig.result) bv) := by rw [mv3.row (by omega) (fun z o n e => nb4 ⟨z, o, n, e⟩)]; exact r4
  have lo3 : h3.lo ≤ i4 := by omega
  simp [f4, r43, pcell, lo3, ab3.one]
  generalize hh4 : h3.set i4 (.cells [.str p.name, sl p.params, .int .i64 p.result, w, .str p.sig.base, sl p.sig.result, .str p.sig.rest, bv', .bool p.extern]) = h4
  have nx4 : h4.nx = h3.nx := by rw [← hh4]; rfl
  have lo4 : h4.lo = h3.lo := by rw [← hh4]; rfl
  have bk4 : ∀ i, i < h2.nx → i ≠ i4 → ¬ nm bv i → h4.blk i = h2.blk i := fun i hi h4' hb => by
    rw [← hh4, blk_set, if_neg h4']
    exact mv3.blk hi fun z o n e => hb ⟨z, o, n, e⟩
  have old4 : ∀ i, i < h'.nx → i ≠ i4 → ¬ nm bv i → h4.blk i = h'.blk i := fun i hi a b => (bk4 i (by omega) a b).trans (old i hi)
  have bvn : ∀ i, nm bv i → i < h'.nx := fun i hi => (abv.names hi).1
  have new4 : ∀ i, h'.nx ≤ i → i < h2.nx → h4.blk i = h2.blk i := fun i a b => bk4 i b (by omega) fun q => by have := bvn i q; omega
  have bvn' : ∀ i, nm bv' i → nm bv i ∨ h2.nx ≤ i := fun i hi => by
    obtain ⟨z, o, n, e⟩ := hi
    rcases mv3.2 with q | q | ⟨_, _, _, _, q, hi⟩
    · exact .inl ⟨z, o, n, q ▸ e⟩
    · rw [q] at e; cases e
    · rw [q] at e; cases e; exact .inr hi
  have cr4 : CodeR h4 h'.nx (.rf 8 ic 0 b.code.length) (tidyC l b.code) js := cr2.keep (by omega) (by omega) fun i a b => new4 i a b
  have ar4 : Acc h4 rv 4 (b.regs.map Enc.c).flatten b.regs.length := arv.of_nm (by omega) (by omega) fun i hi hlt => by
    obtain ⟨z, o, n, e⟩ := hi
    rw [new4 i (nrv _ _ _ _ e) (by omega), bk2 i fun q => jvr.clash q ⟨z, o, n, e⟩, blk_push, if_neg (by omega)]
  refine next _ _ (by simp [f17]) ⟨?_, ?_, ?_, ?_, tj.w4, tj.l4, tj.ne, ⟨by omega, by omega, by omega, by omega⟩, tj.up, bv', bs ++ [rv, .str b.free, .rf 8 ic 0 b.code.length],
    (fun i => (S' i ∧ i < h'.nx) ∨ nm rv i ∨ nm (.rf 8 ic 0 b.code.length) i ∨ ∃ j ∈ js, nm j i), by rw [← hh4]; simp [pcell], ?_, ?_, ?_, ?_, ?_, ?_, ?_, ?_⟩
  · refine ⟨Nat.le_trans tj.bl.1 (by omega), fun i hi => ?_⟩
    have := tj.up.2
    rw [old4 i (Nat.lt_of_lt_of_le hi tj.bl.1) (by omega) fun q => by have := upb i q; omega]
    exact tj.bl.2 i hi
  · simp only [AH.row, old4 i2 t2 tj.ne nb2]; exact tj.r2
  · exact tj.aw.of_nm (by omega) (by omega) fun i hi hlt => old4 i hlt (fun q => tj.w4.1 (q ▸ hi)) fun q => awb.clash hi q
  · exact tj.al.of_nm (by omega) (by omega) fun i hi hlt => old4 i hlt (fun q => tj.l4.1 (q ▸ hi)) fun q => alb.clash hi q
  · rw [← hh4]
    refine ab3.of_nm (Nat.le_refl _) rfl fun i hi _ => ?_
    rw [blk_set, if_neg]
    intro q
    subst q
    rcases bvn' _ hi with q | q
    · exact nb4 q
    · omega
  · have e1 : (((l.take (k + 1)).map fun a => tidyB l (blockAt p a)).map Enc.c).flatten = (((l.take k).map fun a => tidyB l (blockAt p a)).map Enc.c).flatten ++ Enc.c (tidyB l b) := by
      rw [take_succ' hk, List.map_append, List.map_append, List.flatten_append, ha]
      simp [hba]
    rw [e1]
    refine RepL.append (rbs.imp fun _ _ q => (q.below.agree (by omega) fun i hi hlt => old4 i hlt (sS i hi.1).1 (sS i hi.1).2.2.1).mono fun i hi => .inl hi) ⟨?_, by simp [tidyB], ?_, trivial⟩
    · exact Acc.rep (α := LReg) (d := 3) ar4 rfl (fun i hi => .inr (.inl hi)) rs_LReg
    · exact CodeR.rep (d := 1) cr4 fun i hi => .inr (.inr hi)
  · intro i hi
    have hup := tj.bl.1
    have up : ∀ j, h'.nx ≤ j → j < h2.nx → j ≠ i4 ∧ j ≠ i2 ∧ ¬ nm bv' j ∧ h.nx ≤ j := fun j a b => ⟨by omega, by omega, fun q => by
      rcases bvn' _ q with q | q
      · have := bvn _ q; omega
      · omega, by omega⟩
    rcases hi with hi | hi | hi | ⟨j, hj, hi⟩
    · refine ⟨(sS i hi.1).1, (sS i hi.1).2.1, fun q => ?_, (sS i hi.1).2.2.2⟩
      rcases bvn' _ q with q | q
      · exact (sS i hi.1).2.2.1 q
      · omega
    · obtain ⟨z, o, n, e⟩ := hi
      exact up i (nrv _ _ _ _ e) (by have := (arv.names ⟨z, o, n, e⟩).1; omega)
    · obtain ⟨z, o, n, e⟩ := hi
      cases e
      exact up _ hicn (by omega)
    · obtain ⟨q, hq, rfl⟩ := List.getElem_of_mem hj
      obtain ⟨z, o, n, e⟩ := hi
      exact up i (crv.new.2 q hq _ _ _ _ e) (by have := ((crv.jump q (by rw [← crv.len]; exact hq) hq).names ⟨z, o, n, e⟩).1; omega)
  · exact Apart.of fun i a b => by
      rcases bvn' _ b with q | q
      · exact awb.clash a q
      · have := (tj.aw.names a).1; omega
  · exact Apart.of fun i a b => by
      rcases bvn' _ b with q | q
      · exact alb.clash a q
      · have := (tj.al.names a).1; omega
  · exact fun q => by rcases bvn' _ q with q | q; exact nb4 q; omega
  · exact fun q => by rcases bvn' _ q with q | q; exact nb2 q; omega
  · exact fun i q => by
      rcases bvn' _ q with q | q
      · exact upb i q
      · have := tj.bl.1; omega

theorem tidy_w (p : LProc) {S : Nat → Prop} {m0 : Nat} {v1 v3 v5 v7 : PV} {h : AH} (hm0 : m0 + 5 ≤ snapDepth) (r1 : Rep S h (m0 + 5) v1 (sl p.params)) (r3 : Rep S h (m0 + 5) v3 (sl p.sig.params)) (r5 : Rep S h (m0 + 5) v5 (sl p.sig.result)) (r7 : Rep S h (m0 + 5) v7 (sl p.blocks))
    (hp : FitP p) (hps : FitS p) (hpot : ∀ b ∈ p.blocks, ∀ x ∈ b.regs, x.pot.length ≤ 2000000) (hl : laid p = true) (hlw : h.lo ≤ h.nx) {Q : Fr → AH → Prop}
    (next : ∀ s' h' v, resOf c100041.res s' h' = some v → Rep (fun i => h.nx ≤ i) h' 12 v (.agg (Enc.c (tidyP p))) → Q s' h') : WK T c100041.body [] (initFr [.agg (pcell p v1 v3 v5 v7)]) h Q := by
  have hN := order_nums p
  simp [c100041, pcell]
  have b0 : Blw h (h.push (.cells zero9)) := (Blw.refl h).push _
  refine allG_c p (m0 := m0 + 1) (by omega) (r7.blw b0) (Rep.one r1) (Rep.one r3) (Rep.one r5) hp hl (by simp; omega) (fun lv h1 al k1 nl => ?_)
  simp
  have n1 := k1.1
  have lo1 := k1.2.1
  simp at n1 lo1
  have b1 : Blw h h1 := b0.trans k1.blw
  refine proc_c p hps (m := m0 + 1) (by omega) (r1.blw b1) (r3.blw b1) (r5.blw b1) (Rep.one r7) (by omega) (fun w h2 aw nw k2 => ?_)
  have n2 := k2.1
  have lo2 := k2.2.1
  have hlo : h2.lo ≤ h2.nx := by omega
  have al2 := k2.acc al
  have hl4 : ∀ B, evLen (h2.push B) 1 lv = some (.int .i64 (order p).length) := fun B => (al2.push B).len
  simp [pcell, hlo, hl4]
  have rz : h2.row h.nx = some zero9 := by rw [k2.row (by omega), k1.row (by simp)]; simp
  generalize hh3 : h2.push (.cells [.str p.name, sl p.params, .int .i64 p.result, w, .str p.sig.base, sl p.sig.result, .str p.sig.rest, .emp, .bool p.extern]) = h3
  have nx3 : h3.nx = h2.nx + 1 := by rw [← hh3]; rfl
  have lo3 : h3.lo = h2.lo := by rw [← hh3]; rfl
  have bk3 : ∀ i, i < h2.nx → h3.blk i = h2.blk i := fun i hi => by rw [← hh3, blk_push, if_neg (by omega)]
  have nwl : ∀ i, nm lv i → h.nx + 1 ≤ i := fun i ⟨z, o, n, e⟩ => by have := nl _ _ _ _ e; simpa using this
  have nww : ∀ i, nm w i → h1.nx ≤ i := fun i ⟨z, o, n, e⟩ => nw _ _ _ _ e
  have tj0 : TJ h p (order p) lv w h.nx h2.nx 0 h3 := by
    refine ⟨⟨by omega, fun i hi => ?_⟩, ?_, ?_, ?_, ⟨fun q => ?_, fun q => ?_⟩, ⟨fun q => ?_, fun q => ?_⟩, by omega, ⟨by omega, by omega, by omega, by omega⟩, ⟨Nat.le_refl _, by omega⟩, .emp, [], fun _ => False, ?_, Acc.emp, trivial, fun i hi => hi.elim, Apart.emp' _, Apart.emp' _, ?_, ?_, ?_⟩
    · rw [bk3 i (by omega)]; exact (b1.trans k2.blw).2 i hi
    · simp only [AH.row, bk3 h.nx (by omega)]; exact rz
    · exact aw.of_nm (by omega) (by omega) fun i _ hi => bk3 i hi
    · exact al2.of_nm (by omega) (by omega) fun i _ hi => bk3 i hi
    · have := (aw.names q).1; omega
    · have := nww _ q; omega
    · have := (al2.names q).1; omega
    · have := nwl _ q; omega
    · rw [← hh3]; simp [pcell]
    · rintro ⟨_, _, _, e⟩; cases e
    · rintro ⟨_, _, _, e⟩; cases e
    · rintro _ ⟨_, _, _, e⟩; cases e
  refine WK_range tgrow (fun k s' h' => TJ h p (order p) lv w h.nx h2.nx k h') (order p).length w100041_0 rfl (by decide) (by simp) (by simp) (by have := hN.length; have := hp.1; omega) (by decide) (fun _ _ _ _ j _ => j) tj0 ?_ ?_
  · intro k s' h' hk jv hi hs hg
    refine tidy_round p (v1 := v1) (v3 := v3) (v5 := v5) hm0 r7 hp hpot (laid_true hl) (order p) hN lv w h.nx h2.nx k hk ((hs 1 (by decide)).trans (by simp [pcell])) ((hs 3 (by decide)).trans (by simp)) ((hs 4 (by decide)).trans (by simp)) ((hs 15 (by decide)).trans (by simp)) hi (hg.low (by omega)) jv (fun s4 h4 e4 j4 => ?_) _ rfl
    exact ⟨e4, j4⟩
  · intro s' h' jv hs hg
    have f2 : s' 2 = .pt h.nx 0 := (hs 2 (by decide)).trans (by simp)
    have f4 : s' 4 = .pt h2.nx 0 := (hs 4 (by decide)).trans (by simp)
    obtain ⟨bv, bs, S', er4, abv, rbs, sS, awb, alb, nb4, nb2, upb⟩ := jv.out
    obtain ⟨t2, t4, o2, o4⟩ := jv.lt
    rw [List.take_length] at rbs
    simp [f2, f4, er4, pcell, jv.r2, zero9, o2]
    generalize hF : h'.set h.nx (.cells [.str p.name, sl p.params, .int .i64 p.result, w, .str p.sig.base, sl p.sig.result, .str p.sig.rest, bv, .bool p.extern]) = hf
    have nxf : hf.nx = h'.nx := by rw [← hF]; rfl
    have lof : hf.lo = h'.lo := by rw [← hF]; rfl
    have keep : ∀ i, i ≠ h.nx → hf.blk i = h'.blk i := fun i hi => by rw [← hF, blk_set, if_neg hi]
    have rf : hf.row h.nx = some (pcell p (sl p.params) w (sl p.sig.result) bv) := by rw [← hF]; simp [pcell]
    refine next _ _ (.agg (pcell p (sl p.params) w (sl p.sig.result) bv)) (by simp [c100041, f2, rf, pcell]) ?_
    refine ⟨_, rfl, by simp [tidyP], Rep.data (by simp) rs_LVar _, by simp [tidyP], ?_, by simp [tidyP], Rep.data (by simp) rs_str _, by simp [tidyP], ?_, by simp [tidyP], trivial⟩
    · exact Acc.rep (α := List ByteArray) (d := 10) (jv.aw.of_nm (by omega) lof fun i hi _ => keep i fun q => jv.w4.2 (q ▸ hi)) rfl (fun i hi => by have := nww i hi; omega) (rs_sl (by simp) rs_str)
    · have hlen : (tidyP p).blocks.length = (order p).length := by simp [tidyP]
      refine ⟨3, bs, ?_, abv.1.trans (by rw [hlen]), fun z i o m e => ?_, (rbs.imp fun _ _ q => ((q.agree (by omega) fun i hi _ => keep i (sS i hi).2.1).mono fun i hi => (sS i hi).2.2.2).deep (d' := 10) (by omega))⟩
      · rw [hlen]
        exact (abv.of_nm (by omega) lof fun i hi _ => keep i fun q => nb2 (q ▸ hi)).src
      · have := (abv.names ⟨z, o, m, e⟩).1
        obtain ⟨_, ⟨q, _⟩ | ⟨j, q, _, hj, _⟩⟩ := abv
        · rw [q] at e; cases e
        · have hn := upb i ⟨z, o, m, e⟩; rw [q] at e; cases e; exact ⟨rfl, hn, by omega⟩
end Go.Proofs.Ytpdgjdnipkmocaa
